/-
  append.
  Literals, make, copy, strings walked.
  copy, maps, strings walked.
  Maps written, strings walked, nil checks.
  Calls, and the plan of any operation.
  The plan of any operation.
  Frames, and the rules of control.
  Operations within a frame; regions in order.
  Functions: their bodies, deferred calls, results.
-/
import Derived.Test.YtpjclnoehlflcaaGreatDoorU1
import Derived.Deep.Upon
import Derived.Great.BuildSlice
import Derived.Lib.Bytealg
import Derived.Laws.Externs
import Derived.Defers
/-! append. -/
namespace Go.Abs
open Go
noncomputable section
section
variable {P:Program} {T:Tr TypeInfo} {F:Tr Func} {g:Gh} {B:Nat} {w:World} {H:AH} {s:Nat} {ev:Operand → AV} {ρ:Operand → Value} {r:PRes} {R:List Nat} {W:WL}
def pSrc (T:Tr TypeInfo) (tx:TypeId) (sz:Nat) (x:AV) (k:List AV → Nat → Plan):Plan :=
 match tyU T tx with
 |some (.slice _) => match x with
  | .nils => k [] 0
  | .lst ys m _ => match qdk (m * sz) ys with
   |some l => .chk (qda l) (k l m)
   |none => .fail
  | .slc o off m _ => .get o fun y => match y with
   | .cells tr n _ => .chk (decide (off + m * sz ≤ n)) (match qmr tr off (m * sz) with
    |some l => .chk (qda l) (k l m)
    |none => .fail)
   | _ => .fail
  | _ => .fail
 |some .string => match x with
  | .str b => match sz with
   | 1 => k (b.map fun c => .int .u8 c.toNat) b.length
   | _ => .fail
  | _ => .fail
 | _ => .fail
theorem Lives.bytes (L:Nat → Prop):∀ b:List UInt8,Lives L (b.map fun c => AV.int .u8 c.toNat)
 | [] => trivial
 | _ :: b => ⟨trivial,Lives.bytes L b⟩
theorem VRels.bytes:∀ b:List UInt8,VRels g w (b.map fun c => AV.int .u8 c.toNat) (b.map fun c => Value.int .u8 c.toNat)
 | [] => by simp [VRels]
 |c :: b => by
  simp only [List.map_cons,VRels]
  exact ⟨_,_,rfl,by simp [VRel],VRels.bytes b⟩
theorem qy9 (c:OCtx P T F g B w H s ev ρ) {tx:TypeId} {sz:Nat} {x:Operand} {k:List AV → Nat → Plan} (h:EvF s (pSrc T tx sz (ev x) k) H.o r R W) :
  ∃ ys m news R',EvF s (k ys m) H.o r R' W ∧ Src P sz tx (ρ x) m news w ∧ VRels g w ys news ∧ Lives H.L ys :=by
 have hx :=c.rel x
 have hl :=c.live x
 unfold pSrc at h
 split at h
 ·rename_i e hu
  have hu' :=qez c.T hu
  split at h
  ·rename_i ex
   rw [ex] at hx
   simp only [VRel] at hx
   rw [hx]
   exact ⟨[],0,[],R,h,Src.ofNil w hu' 0,by simp [VRels],trivial⟩
  ·rename_i ys m own ex
   rw [ex] at hx hl
   simp only [VRel] at hx
   obtain ⟨b,off,cap,e1,h1,h2,h3,h4⟩ :=hx
   split at h <;> try exact h.elim
   rename_i l hln
   obtain ⟨hc,h⟩ :=h
   obtain ⟨k1,k2⟩ :=qel hln
   obtain ⟨cs,f1,f2,f3⟩ :=h3.piece (off :=0) (by simpa using k1) k2
   rw [e1]
   refine ⟨l,m,cs,R,h,Src.ofSlice w hu' _ m cap cs f1 (by simpa using f2) (qdy hc f3),f3,?_⟩
   rw [k1];exact Lives.take hl.1 _
  ·rename_i o off m cap ex
   rw [ex] at hx
   simp only [VRel] at hx
   obtain ⟨R',_,h⟩ :=h
   simp only at h
   split at h <;> try exact h.elim
   rename_i tr n ty ho
   obtain ⟨hb,h⟩ :=h
   have hb :=of_decide_eq_true hb
   split at h <;> try exact h.elim
   rename_i l hln
   obtain ⟨hc,h⟩ :=h
   obtain ⟨k1,k2⟩ :=qgc hln
   obtain ⟨cs,f1,f2,f3,f4⟩ :=c.h.cellsAt ho hb k1 k2
   rw [hx]
   exact ⟨l,m,cs,R',h,Src.ofSlice w hu' _ m cap cs f1 f2 (qdy hc f3),f3,f4⟩
  ·exact h.elim
 ·rename_i hu
  have hu' :=qez c.T hu
  split at h <;> try exact h.elim
  rename_i b ex
  rw [ex] at hx
  simp only [VRel] at hx
  split at h <;> try exact h.elim
  rw [hx]
  refine ⟨_,_,_,R,h,?_,VRels.bytes b,Lives.bytes _ b⟩
  have :=Src.ofString (P :=P) w hu' ⟨b.toArray⟩
  have es:(⟨b.toArray⟩ : ByteArray).size = b.length :=rfl
  rw [es] at this
  simpa [byteCells] using this
 ·exact h.elim
theorem qja (w:World) (t tx ty e:TypeId) (i:TypeInfo) (ht:P.underlying t = some (.slice e)) (hi:P.info? e = some i) (b sLen sCap:Nat) (x:Value) (n:Nat) (news:List Value)
  (hs:Src P i.size tx x n news w) (cur:Array Value) (hg:w.heap[b]? = some (.cells cur e (0,0)))
  (hroom:sLen + n ≤ sCap) (hfit:sLen * i.size + news.length ≤ cur.size) :
  (Builtin.append_ #[t,tx] ty #[.slice (some ⟨b,0,none⟩) sLen sCap,x]).run P w = .ok (.slice (some ⟨b,0,none⟩) (sLen + n) sCap)
   (w.setRow b (cur.toList.take (sLen * i.size) ++ news ++ cur.toList.drop (sLen * i.size + news.length)).toArray) :=by
 have hst :=run_storeCells_at P b (sLen * i.size) e news 0 cur w hg (by simpa using hfit) hs.one
 simp only [Nat.add_zero] at hst
 rcases hs.kind with ⟨e',hk⟩ | hk <;> simp [Builtin.append_,run_underlying ht,run_underlying hk,sizeOf,typeInfo,hi,hs.len,hroom,hs.cells,Addr.add_lit,hst]
theorem qfx (w:World) (need old:Nat) (e:TypeId):need ≤ grownCap w need old e :=by
 simp only [grownCap,Question.cut];omega
theorem qhc (h:HRel g B w H) (hs:H.o s = .hole) {n cap sz:Nat} {e:TypeId} {zs:List AV} {news:List Value} {rest:Array Value} (hz:VRels g w zs news) (hl:Lives H.L zs)
  (hn:news.length = n * sz) (hc:n ≤ cap) (hr:rest.size = (cap - n) * sz) :
  ∃ g',Out g B w H g' (w.drew.alloc (.cells (news.toArray ++ rest) e)) (H.put s (.chain n sz e) 0) ∧
   VRel g' (w.drew.alloc (.cells (news.toArray ++ rest) e)) (.lst zs n (.ch s)) (.slice (some ⟨w.heap.size,0,none⟩) n cap) ∧ Live (H.put s (.chain n sz e) 0).L (.lst zs n (.ch s)) :=by
 have h1 :=Out.drew h
 have hsz:cap * sz = (news.toArray ++ rest).size :=by
  simp only [Array.size_append,List.size_toArray,hn,hr,← Nat.add_mul]
  congr 1
  omega
 obtain ⟨g',e1,e2,e3,e4,e5⟩ :=h1.rel.newChain hs (arr :=news.toArray ++ rest) (ty :=e) (cap :=cap) (sz :=sz) hsz hc
 have hlen :=hz.length
 refine ⟨g',h1.trans e1,?_,⟨hl.mono fun i hi => AH.put_L H s 0 (by simp) hi,fun c hcc => ?_⟩⟩
 ·simp only [VRel]
  refine ⟨w.heap.size,0,cap,rfl,hc,?_,?_,?_⟩
  ·have e3':g'.im w.heap.size = n * sz :=e3
   rw [e3']
   omega
  ·refine LRel.of_get _ _ fun j a ha => ?_
   obtain ⟨v,f1,f2⟩ :=hz.get _ _ ha
   refine ⟨v,?_,f2.ext (h1.trans e1).ext _ _ (hl.mem _ _ (List.mem_of_getElem? ha))⟩
   have :=World.cell?_alloc_new w.drew (news.toArray ++ rest) e (0 + j)
   have e6:w.drew.heap.size = w.heap.size :=rfl
   rw [e6] at this
   rw [this,Nat.zero_add]
   have hj:j < news.length :=by
    rw [List.getElem?_eq_some_iff] at f1
    exact f1.1
   rw [Array.getElem?_append_left (by simpa using hj)]
   simpa using f1
  ·have e5':g'.cn s = n :=e5
   have e2':g'.cb s = w.heap.size :=e2
   have e4':g'.cc s = cap :=e4
   exact ⟨by omega,fun _ => ⟨e2'.symm,rfl,e4'.symm⟩⟩
 ·cases hcc
  exact AH.put_L_same H s 0 (by simp)
def qjn:Nat :=140737488355328
def qoe (T:Tr TypeInfo) (t tx:TypeId) (d x:AV):Plan :=
 match tyU T t with
 |some (.slice e) => match T.get e with
  |some i => match i.zero with
   |some z => .chk (qeh (ofVs z.cells.toList) i.size) (pSrc T tx i.size x fun ys m => match m with
    | 0 => match d with
     | .nils => .ret .nils
     | .lst xs n own => .ret (.lst xs n own)
     | _ => .fail
    |m + 1 => match d with
     | .nils => .chk (decide ((m + 1) * i.bytes ≤ qjn)) (.chk (decide (m + 1 ≤ ql8)) (.fL ys fun zs =>
       .newo (.chain (m + 1) i.size e) fun c => .ret (.lst zs (m + 1) (.ch c))))
     | .lst xs n own => .chk (decide ((n + (m + 1)) * i.bytes ≤ qjn)) (.chk (decide (n + (m + 1) ≤ ql8)) (.chk (qeh xs (n * i.size)) (.fL (xs ++ ys) fun zs =>
       match own with
       | .full => .newo (.chain (n + (m + 1)) i.size e) fun c => .ret (.lst zs (n + (m + 1)) (.ch c))
       | .ch c => .get c fun y => match y with
        | .chain n' sz' e' => .chk (decide (n' = n)) (.chk (decide (sz' = i.size)) (.chk (decide (e' = e))
          (.seto c (.chain (n + (m + 1)) i.size e) 0 (.ret (.lst zs (n + (m + 1)) (.ch c))))))
        | _ => .fail
       | .no => .fail)))
     | _ => .fail)
   |none => .fail
  |none => .fail
 | _ => .fail
theorem VRels.append:∀ {xs ys:List AV} {us vs:List Value},VRels g w xs us → VRels g w ys vs → VRels g w (xs ++ ys) (us ++ vs)
 | [],_,_,_,h,k => by simp only [VRels] at h;subst h;simpa using k
 | _ :: _,ys,us,vs,h,k => by
  obtain ⟨u,us',e,h1,h2⟩ :=h
  subst e
  simp only [List.cons_append,VRels]
  exact ⟨_,_,rfl,h1,VRels.append h2 k⟩
theorem Lives.append {L:Nat → Prop}:∀ {xs ys:List AV},Lives L xs → Lives L ys → Lives L (xs ++ ys)
 | [],_,_,k => k
 | _ :: _,_,h,k => ⟨h.1,Lives.append h.2 k⟩
theorem qd9 (z:Array Value) (n:Nat):(Builtin.zeroCells z n).size = n * z.size :=by simp [Builtin.zeroCells]
theorem qrl (c:OCtx P T F g B w H s ev ρ) {t tx ty:TypeId} {d x:Operand} (h:EvF s (qoe T t tx (ev d) (ev x)) H.o r R W) :
  qay g B w H W ((do let v ← Builtin.append_ #[t,tx] ty #[ρ d,ρ x];pure (.value v):Sem Next).run P w) r :=by
 have hd :=c.rel d
 have hld :=c.live d
 unfold qoe at h
 split at h <;> try exact h.elim
 rename_i e hu
 have hu' :=qez c.T hu
 split at h <;> try exact h.elim
 rename_i i hi
 have hi' :=c.T e i hi
 split at h <;> try exact h.elim
 rename_i z hz
 obtain ⟨hzl,h⟩ :=h
 have hzl :=qet hzl
 have hzs:z.cells.size = i.size :=by
  have :=(qd3 g w z.cells.toList).length
  rw [← Array.length_toList,this,hzl]
 have hq :=qy9 c h
 clear h
 obtain ⟨ys,m,news,R',h,hsrc,hys,hlys⟩ :=hq
 have hnl :=hsrc.newsLen
 have hnl2 :=hys.length
 split at h
 ·-- nothing is appended
  have hnil:news = [] :=by
   apply List.length_eq_zero_iff.1
   rw [hnl];simp
  subst hnil
  split at h
  ·rename_i ed
   rw [ed] at hd
   simp only [VRel] at hd
   obtain ⟨rfl,rfl⟩ :=qaq h
   have :=run_append_nothing w t tx ty e i hu' hi' none 0 0 (Nat.le_refl _) (ρ x) hsrc
   exact qay.pure c.h (u :=.slice none 0 0) (by simp [hd,this]) (by simp [VRel]) trivial
  ·rename_i xs n own ed
   rw [ed] at hd hld
   have hd0 :=hd
   simp only [VRel] at hd
   obtain ⟨b,off,cap,e1,h1,h2,h3,h4⟩ :=hd
   obtain ⟨rfl,rfl⟩ :=qaq h
   have :=run_append_nothing w t tx ty e i hu' hi' (some ⟨b,off,none⟩) n cap h1 (ρ x) hsrc
   rw [e1] at hd0
   exact qay.pure c.h (u :=.slice (some ⟨b,off,none⟩) n cap) (by simp [e1,this]) hd0 hld
  ·exact h.elim
 ·rename_i m
  split at h
  ·-- onto nil
   rename_i ed
   rw [ed] at hd
   simp only [VRel] at hd
   obtain ⟨hb1,hb2,W',rfl,h⟩ :=h
   obtain ⟨rfl,rfl⟩ :=qaq h
   have hb1 :=of_decide_eq_true hb1
   have hb2 :=of_decide_eq_true hb2
   unfold qjn at hb1
   unfold ql8 at hb2
   have hrun :=run_append_grow_src w t tx ty e i z hu' hi' hz none 0 0 [] (run_firstCells_none w.drew i.size 0 0 0) (ρ x) (m + 1) news hsrc (by omega) (by omega) (growslice_fits (by omega) (by simpa using hb1))
   obtain ⟨g',f1,f2,f3⟩ :=qhc (e :=e) c.h c.s hys hlys hnl (qfx w (m + 1) 0 e) (rest :=Builtin.zeroCells z.cells (grownCap w (m + 1) 0 e - (m + 1))) (by rw [qd9,hzs])
   refine ⟨_,g',_,?_,f1,f2,f3⟩
   simp only [Nat.zero_add,List.nil_append] at hrun
   simp [hd,hrun]
  ·-- onto a list
   rename_i xs n own ed
   rw [ed] at hd hld
   simp only [VRel] at hd
   obtain ⟨b,off,cap,e1,h1,h2,h3,h4⟩ :=hd
   obtain ⟨hb1,hb2,hb3,h⟩ :=h
   have hb1 :=of_decide_eq_true hb1
   have hb2 :=of_decide_eq_true hb2
   have hb3 :=qet hb3
   unfold qjn at hb1
   unfold ql8 at hb2
   obtain ⟨olds,k1,k2,k3⟩ :=h3.piece (off :=0) (k :=n * i.size) (l :=xs) (by simp [← hb3]) hb3
   have hold :=run_firstCells_some (P :=P) w.drew i.size n ⟨b,off,none⟩ n cap olds k1 (by simpa using k2)
   have hzz :=k3.append hys
   have hll :=Lives.append hld.1 hlys
   have hgrow :=fun (hc:cap < n + (m + 1)) => run_append_grow_src w t tx ty e i z hu' hi' hz (some ⟨b,off,none⟩) n cap olds hold (ρ x) (m + 1) news hsrc hc (by omega) (growslice_fits hc hb1)
   have hnn:(olds ++ news).length = (n + (m + 1)) * i.size :=by rw [List.length_append,k1,hnl,Nat.add_mul]
   split at h
   ·-- full
    obtain ⟨W',rfl,h⟩ :=h
    obtain ⟨rfl,rfl⟩ :=qaq h
    have h4:cap = n :=h4
    subst h4
    obtain ⟨g',f1,f2,f3⟩ :=qhc (e :=e) c.h c.s hzz hll hnn (qfx w (cap + (m + 1)) cap e) (rest :=Builtin.zeroCells z.cells (grownCap w (cap + (m + 1)) cap e - (cap + (m + 1)))) (by rw [qd9,hzs])
    refine ⟨_,g',_,?_,f1,f2,f3⟩
    simp [e1,hgrow (by omega)]
   ·-- a chain
    rename_i cc
    obtain ⟨R'',_,h⟩ :=h
    simp only at h
    split at h <;> try exact h.elim
    rename_i n' sz' e' ho
    obtain ⟨g1,g2,g3,R3,W',_,rfl,h⟩ :=h
    obtain ⟨rfl,_,rfl⟩ :=h
    have g1 :=of_decide_eq_true g1
    have g2 :=of_decide_eq_true g2
    have g3 :=of_decide_eq_true g3
    subst g1;subst g2;subst g3
    have hrc :=c.h.rel cc
    rw [ho] at hrc
    obtain ⟨arr,q1,q2,q3,q4,q5⟩ :=hrc
    obtain ⟨o1,o2⟩ :=h4
    obtain ⟨o3,o4,o5⟩ :=o2 q5.symm
    subst o3;subst o4;subst o5
    by_cases hroom:n' + (m + 1) ≤ g.cc cc
    ·-- in place
     have hfit:n' * i.size + news.length ≤ arr.size :=by
      rw [hnl,← q4,← Nat.add_mul]
      exact Nat.mul_le_mul_right _ hroom
     have hrun :=qja w t tx ty e' i hu' hi' (g.cb cc) n' (g.cc cc) (ρ x) (m + 1) news hsrc arr q1 hroom hfit
     generalize harr:(arr.toList.take (n' * i.size) ++ news ++ arr.toList.drop (n' * i.size + news.length)).toArray = arr' at hrun
     have hsz:arr'.size = arr.size :=by
      rw [← harr]
      simp only [List.size_toArray,List.length_append,List.length_take,List.length_drop,Array.length_toList]
      omega
     have hpre:∀ j,j < n' * i.size → arr'[j]? = arr[j]? :=fun j hj => by
      rw [← harr,List.getElem?_toArray,List.append_assoc,List.getElem?_append_left (by simp;omega),List.getElem?_take_of_lt hj]
      simp
     have hnew:∀ j,j < news.length → arr'[n' * i.size + j]? = news[j]? :=fun j hj => by
      have e4:(List.take (n' * i.size) arr.toList).length = n' * i.size :=by simp;omega
      rw [← harr,List.getElem?_toArray,List.append_assoc,List.getElem?_append_right (by omega),e4,List.getElem?_append_left (by omega)]
      congr 1
      omega
     obtain ⟨g',f1,f2,f3,f4,f5⟩ :=c.h.growChain ho hroom q1 hsz hpre
     refine ⟨.slice (some ⟨g.cb cc,0,none⟩) (n' + (m + 1)) (g.cc cc),g',_,by simp [e1,hrun],f1,?_,hll.mono fun k hk => f1.L k hk,fun c' hc' => by cases hc';exact f1.L _ (hld.2 _ rfl)⟩
     simp only [VRel]
     refine ⟨g.cb cc,0,g.cc cc,rfl,by omega,?_,?_,?_⟩
     ·rw [f3,List.length_append,Nat.zero_add,hb3,← hnl2,hnl,Nat.add_mul];exact Nat.le_refl _
     ·refine LRel.of_get _ _ fun j a ha => ?_
      have hcell :=fun j => cell_setRow_same w (g.cb cc) j arr arr' e' (0,0) q1
      rw [Nat.zero_add,hcell]
      by_cases hj:j < xs.length
      ·rw [List.getElem?_append_left hj] at ha
       obtain ⟨v,v1,v2⟩ :=h3.get xs 0 j a ha
       refine ⟨v,?_,v2.ext f1.ext _ _ (hld.1.mem _ _ (List.mem_of_getElem? ha))⟩
       rw [hpre j (by omega)]
       simpa [World.cell?,q1] using v1
      ·rw [List.getElem?_append_right (by omega)] at ha
       obtain ⟨v,v1,v2⟩ :=hys.get _ _ ha
       refine ⟨v,?_,v2.ext f1.ext _ _ (hlys.mem _ _ (List.mem_of_getElem? ha))⟩
       have hj2:j - xs.length < news.length :=(List.getElem?_eq_some_iff.1 v1).1
       have :=hnew (j - xs.length) hj2
       rw [show n' * i.size + (j - xs.length) = j by omega] at this
       rw [this];exact v1
     ·exact ⟨by omega,fun _ => ⟨f2.symm,rfl,f4.symm⟩⟩
    ·-- a new block
     have h1' :=Out.drew c.h
     have hrest:(Builtin.zeroCells z.cells (grownCap w (n' + (m + 1)) (g.cc cc) e' - (n' + (m + 1)))).size = (grownCap w (n' + (m + 1)) (g.cc cc) e' - (n' + (m + 1))) * i.size :=by rw [qd9,hzs]
     have hcap :=qfx w (n' + (m + 1)) (g.cc cc) e'
     generalize Builtin.zeroCells z.cells (grownCap w (n' + (m + 1)) (g.cc cc) e' - (n' + (m + 1))) = rest at *
     have hrun :=hgrow (by omega)
     generalize grownCap w (n' + (m + 1)) (g.cc cc) e' = ncap at *
     have hsz:ncap * i.size = ((olds ++ news).toArray ++ rest).size :=by
      simp only [Array.size_append,List.size_toArray,hnn,hrest,← Nat.add_mul]
      congr 1
      omega
     obtain ⟨g',f1,f2,f3,f4,f5⟩ :=h1'.rel.moveChain (m :=m + 1) ho (by omega) (arr :=(olds ++ news).toArray ++ rest) (cap :=ncap) hsz hcap
     have f1' :=h1'.trans f1
     refine ⟨.slice (some ⟨w.heap.size,0,none⟩) (n' + (m + 1)) ncap,g',_,by simp [e1,hrun],f1',?_,hll.mono fun k hk => f1'.L k hk,fun c' hc' => by cases hc';exact f1'.L _ (hld.2 _ rfl)⟩
     simp only [VRel]
     have f2':g'.cb cc = w.heap.size :=f2
     have f3':g'.im w.heap.size = (n' + (m + 1)) * i.size :=f3
     refine ⟨w.heap.size,0,ncap,rfl,hcap,?_,?_,?_⟩
     ·rw [f3',List.length_append,Nat.zero_add,hb3,← hnl2,hnl,Nat.add_mul];exact Nat.le_refl _
     ·refine LRel.of_get _ _ fun j a ha => ?_
      obtain ⟨v,v1,v2⟩ :=hzz.get _ _ ha
      refine ⟨v,?_,v2.ext f1'.ext _ _ (hll.mem _ _ (List.mem_of_getElem? ha))⟩
      have :=World.cell?_alloc_new w.drew ((olds ++ news).toArray ++ rest) e' (0 + j)
      have e6:w.drew.heap.size = w.heap.size :=rfl
      rw [e6] at this
      rw [this,Nat.zero_add]
      have hj:j < (olds ++ news).length :=(List.getElem?_eq_some_iff.1 v1).1
      rw [Array.getElem?_append_left (by simpa using hj)]
      simpa using v1
     ·exact ⟨by omega,fun _ => ⟨f2'.symm,rfl,f4.symm⟩⟩
   ·exact h.elim
  ·exact h.elim
end
end
end Go.Abs

/-! Literals, make, copy, strings walked. -/
namespace Go.Abs
open Go
noncomputable section
section
variable {P:Program} {T:Tr TypeInfo} {F:Tr Func} {g:Gh} {B:Nat} {w:World} {H:AH} {s:Nat} {ev:Operand → AV} {ρ:Operand → Value} {r:PRes} {R:List Nat} {W:WL}
def putN:List AV → Nat → List AV → List AV
 | [],_,_ => []
 |x :: xs,n,cs => match n with
  | 0 => match cs with
   | [] => x :: xs
   |c :: cs => c :: putN xs 0 cs
  |n + 1 => x :: putN xs n cs
theorem qhu:∀ (xs:List AV) (n:Nat) (cs:List AV),(putN xs n cs).length = xs.length
 | [],_,_ => rfl
 |x :: xs,0,[] => rfl
 |x :: xs,0,c :: cs => by simp [putN,qhu xs 0 cs]
 |x :: xs,n + 1,cs => by simp [putN,qhu xs n cs]
theorem qku:∀ (xs:List AV) (n:Nat) (cs:List AV) (j:Nat),j < xs.length → (putN xs n cs)[j]? = if n ≤ j ∧ j < n + cs.length then cs[j - n]? else xs[j]?
 | [],_,_,j,h => by simp at h
 |x :: xs,0,[],j,h => by
  simp only [putN]
  rw [if_neg (by simp)]
 |x :: xs,0,c :: cs,0,h => by simp [putN]
 |x :: xs,0,c :: cs,j + 1,h => by
  have :=qku xs 0 cs j (by simpa using h)
  simp only [putN,List.getElem?_cons_succ,this,Nat.zero_le,true_and,Nat.zero_add,Nat.sub_zero,List.length_cons]
  by_cases e:j < cs.length
  ·rw [if_pos e,if_pos (by omega)]
  ·rw [if_neg e,if_neg (by omega)]
 |x :: xs,n + 1,cs,0,h => by simp [putN]
 |x :: xs,n + 1,cs,j + 1,h => by
  have :=qku xs n cs j (by simpa using h)
  simp only [putN,List.getElem?_cons_succ,this]
  by_cases e:n ≤ j ∧ j < n + cs.length
  ·rw [if_pos e,if_pos (by omega),show j + 1 - (n + 1) = j - n by omega]
  ·rw [if_neg e,if_neg (by omega)]
theorem qkt:∀ (xs:List AV) (n:Nat) (cs:List AV) (a:AV),a ∈ putN xs n cs → a ∈ xs ∨ a ∈ cs
 | [],_,_,a,h => by simp [putN] at h
 |x :: xs,0,[],a,h => .inl h
 |x :: xs,0,c :: cs,a,h => by
  simp only [putN,List.mem_cons] at h ⊢
  rcases h with h | h
  ·exact .inr (.inl h)
  ·rcases qkt xs 0 cs a h with h | h
   ·exact .inl (.inr h)
   ·exact .inr (.inr h)
 |x :: xs,n + 1,cs,a,h => by
  simp only [putN,List.mem_cons] at h ⊢
  rcases h with h | h
  ·exact .inl (.inl h)
  ·rcases qkt xs n cs a h with h | h
   ·exact .inl (.inr h)
   ·exact .inr h
theorem Lives.of_mem {L:Nat → Prop}:∀ (xs:List AV),(∀ a,a ∈ xs → Live L a) → Lives L xs
 | [],_ => trivial
 |x :: xs,h => ⟨h x (by simp),Lives.of_mem xs fun a ha => h a (by simp [ha])⟩
def qfy (off:Nat) (cs:Array Value) (l:List (Value × Nat)):Array Value :=l.foldl (fun cs x => cs.setIfInBounds (off + x.2) x.1) cs
theorem qhg (off:Nat):∀ (l:List Value) (k:Nat) (cs:Array Value),(qfy off cs (l.zipIdx k)).size = cs.size ∧
  ∀ j,j < cs.size → (qfy off cs (l.zipIdx k))[j]? = if off + k ≤ j ∧ j < off + k + l.length then l[j - (off + k)]? else cs[j]?
 | [],k,cs => by
  refine ⟨rfl,fun j hj => ?_⟩
  rw [if_neg (by simp)]
  rfl
 |v :: l,k,cs => by
  obtain ⟨h1,h2⟩ :=qhg off l (k + 1) (cs.setIfInBounds (off + k) v)
  have e:qfy off cs ((v :: l).zipIdx k) = qfy off (cs.setIfInBounds (off + k) v) (l.zipIdx (k + 1)) :=by
   simp [qfy,List.zipIdx_cons]
  rw [e]
  refine ⟨by rw [h1];simp,fun j hj => ?_⟩
  rw [h2 j (by simpa using hj)]
  by_cases e1:j = off + k
  ·subst e1
   rw [if_neg (by omega),if_pos (by simp)]
   simp [hj]
  ·by_cases e2:off + (k + 1) ≤ j ∧ j < off + (k + 1) + l.length
   ·rw [if_pos e2,if_pos (by simp;omega),show j - (off + k) = j - (off + (k + 1)) + 1 by omega]
    simp
   ·rw [if_neg e2,if_neg (by simp;omega)]
    rw [Array.getElem?_setIfInBounds_ne (by omega)]
theorem VRels.put {cells cs:List AV} {arr:Array Value} {v:Array Value} {off:Nat} (h:VRels g w cells arr.toList) (hc:VRels g w cs v.toList) :
  VRels g w (putN cells off cs) (qfy off arr (v.toList.zipIdx 0)).toList :=by
 have hl :=h.length
 have hcl :=hc.length
 obtain ⟨h1,h2⟩ :=qhg off v.toList 0 arr
 have hsz:arr.size = cells.length :=by rw [← hl];simp
 refine VRels.of_get _ _ (by rw [qhu,Array.length_toList,h1,hsz]) fun j a ha => ?_
 have hj:j < cells.length :=by
  have :=(List.getElem?_eq_some_iff.1 ha).1
  rwa [qhu] at this
 rw [qku _ _ _ _ hj] at ha
 rw [Array.getElem?_toList,h2 j (by omega)]
 simp only [Nat.add_zero,hcl]
 split at ha
 ·rename_i e
  rw [if_pos e]
  exact hc.get _ _ ha
 ·rename_i e
  rw [if_neg e]
  obtain ⟨u,h3,h4⟩ :=h.get _ _ ha
  exact ⟨u,by simpa using h3,h4⟩
def qor (place:Nat → Option (Nat × Nat)) (cells:List AV):List (Nat × AV) → Option (List AV)
 | [] => some cells
 |(i,v) :: rest => match place i with
  |some (off,size) => match cellsOf v with
   |some cs => match qeh cs size && decide (off + size ≤ cells.length) with
    |true => qor place (putN cells off cs) rest
    |false => none
   |none => none
  |none => none
theorem qh1 (c:OCtx P T F g B w H s ev ρ) {place:Nat → Option (Nat × Nat)}:∀ (parts:List (Nat × Operand)) (cells out:List AV) (arr:Array Value),
  qor place cells (parts.map fun p => (p.1,ev p.2)) = some out → VRels g w cells arr.toList → Lives H.L cells →
  ∃ arr',Instr.fill place arr (parts.map fun p => (p.1,ρ p.2)) = some arr' ∧ VRels g w out arr'.toList ∧ Lives H.L out
 | [],cells,out,arr,h,hv,hl => by
  simp only [List.map_nil,qor,Option.some.injEq] at h
  subst h
  exact ⟨arr,rfl,hv,hl⟩
 |(i,x) :: rest,cells,out,arr,h,hv,hl => by
  simp only [List.map_cons,qor] at h
  split at h <;> try cases h
  rename_i off size hp
  split at h <;> try cases h
  rename_i cs hcs
  split at h <;> try cases h
  rename_i hb
  simp only [Bool.and_eq_true,decide_eq_true_eq] at hb
  obtain ⟨h1,h2⟩ :=qg5 hcs (c.rel x) (c.live x)
  have hlen :=qet hb.1
  have hvl :=h1.length
  have hal :=hv.length
  obtain ⟨arr',f1,f2,f3⟩ :=qh1 c rest _ out _ h (hv.put h1) (Lives.of_mem _ fun a ha => by
   rcases qkt _ _ _ _ ha with ha | ha
   ·exact hl.mem _ _ ha
   ·exact h2.mem _ _ ha)
  refine ⟨arr',?_,f2,f3⟩
  simp only [List.map_cons,Instr.fill,hp]
  have e1:(ρ x).cells.size = size :=by rw [← Array.length_toList,hvl,hlen]
  have e2:arr.size = cells.length :=by rw [← hal];simp
  rw [if_neg (by simp [e1,e2];omega)]
  rw [← f1]
  congr 1
  simp only [qfy]
  rw [← Array.foldl_toList]
  congr 1
  rw [Array.toList_zipIdx]
def qik (T:Tr TypeInfo):List Field → Option (List (Nat × Nat))
 | [] => some []
 |f :: fs => match T.get f.type with
  |some i => match qik T fs with
   |some l => some ((f.offset,i.size) :: l)
   |none => none
  |none => none
theorem qjp (hT:TOK P T):∀ (fs:List Field) (l:List (Nat × Nat)),qik T fs = some l → fs.mapM (fun f => (P.info? f.type).map fun i => (f.offset,i.size)) = some l
 | [],l,h => by simp only [qik,Option.some.injEq] at h;subst h;rfl
 |f :: fs,l,h => by
  simp only [qik] at h
  split at h <;> try cases h
  rename_i i hi
  split at h <;> cases h
  rename_i l' hl
  simp [List.mapM_cons,hT _ _ hi,qjp hT fs l' hl]
def qp0 (T:Tr TypeInfo) (t:TypeId) (parts:List (Nat × AV)):Plan :=
 match qji T t with
 |some zs => match tyU T t with
  |some (.struct fs) => match qik T fs.toList with
   |some places => match qor (fun i => places.toArray[i]?) zs parts with
    |some out => .fL out fun l => .ret (.agg l)
    |none => .fail
   |none => .fail
  |some (.array _ e) => match T.get e with
   |some i => match qor (fun j => some (j * i.size,i.size)) zs parts with
    |some out => .fL out fun l => .ret (.agg l)
    |none => .fail
   |none => .fail
  | _ => .fail
 |none => .fail
theorem qtq (c:OCtx P T F g B w H s ev ρ) {t:TypeId} {parts:Array (Nat × Operand)} (h:EvF s (qp0 T t (parts.toList.map fun p => (p.1,ev p.2))) H.o r R W) :
  qay g B w H W ((do let v ← Instr.build t (parts.map fun (i,x) => (i,ρ x));pure (.value v):Sem Next).run P w) r :=by
 have hp:(parts.map fun (x:Nat × Operand) => (x.1,ρ x.2)).toList = parts.toList.map fun p => (p.1,ρ p.2) :=by simp
 unfold qp0 at h
 split at h <;> try exact h.elim
 rename_i zs hz
 unfold qji at hz
 cases hti:T.get t with
 |none => rw [hti] at hz;cases hz
 |some it =>
  rw [hti] at hz
  simp only at hz
  cases hzz:it.zero with
  |none => rw [hzz] at hz;cases hz
  |some z =>
   rw [hzz] at hz
   simp only [Option.some.injEq] at hz
   subst hz
   have hit :=c.T _ _ hti
   split at h <;> try exact h.elim
   ·rename_i fs hu
    have hu' :=qez c.T hu
    split at h <;> try exact h.elim
    rename_i places hpl
    split at h <;> try exact h.elim
    rename_i out hf
    obtain ⟨rfl,rfl⟩ :=qaq (s :=s) (o :=H.o) (r :=r) (R :=R) (W :=W) h
    obtain ⟨arr,f1,f2,f3⟩ :=qh1 c parts.toList _ out z.cells hf (qd3 _ _ _) (qds _ _)
    refine qay.pure c.h (u :=.agg arr) ?_ (by simp only [VRel];exact ⟨_,rfl,f2⟩) f3
    have hb:P.built t (parts.map fun (x:Nat × Operand) => (x.1,ρ x.2)).toList = some arr :=by
     unfold Program.built
     simp only [hit,hu',hzz,qjp c.T _ _ hpl,hp]
     exact f1
    simp [run_build w t _ arr hb]
   ·rename_i n e hu
    have hu' :=qez c.T hu
    split at h <;> try exact h.elim
    rename_i i hi
    have hi' :=c.T _ _ hi
    split at h <;> try exact h.elim
    rename_i out hf
    obtain ⟨rfl,rfl⟩ :=qaq (s :=s) (o :=H.o) (r :=r) (R :=R) (W :=W) h
    obtain ⟨arr,f1,f2,f3⟩ :=qh1 c parts.toList _ out z.cells hf (qd3 _ _ _) (qds _ _)
    refine qay.pure c.h (u :=.agg arr) ?_ (by simp only [VRel];exact ⟨_,rfl,f2⟩) f3
    have hb:P.built t (parts.map fun (x:Nat × Operand) => (x.1,ρ x.2)).toList = some arr :=by
     unfold Program.built
     simp only [hit,hu',hzz,hi',hp]
     exact f1
    simp [run_build w t _ arr hb]
theorem HRel.newRow (h:HRel g B w H) (arr:Array Value) (ty:TypeId) (k:Nat) :
  ∃ g',Out g B w H g' (w.alloc (.cells arr ty)) H ∧ g'.im w.heap.size = k :=by
 let g':Gh :={ g with im :=fun b => if b = w.heap.size then k else g.im b }
 have hbl:∀ b j,j < g.im b → b < w.heap.size :=fun b j hj => by
  apply Nat.lt_of_not_le
  intro hb
  rw [h.imz b hb] at hj
  omega
 have hx:Ext H.L g w g' (w.alloc (.cells arr ty)) :=by
  refine ⟨fun _ _ => rfl,fun _ _ => Nat.le_refl _,fun _ _ _ => ⟨rfl,rfl⟩,fun b => ?_,fun b j hj => qdm (hbl b j hj)⟩
  show g.im b ≤ if b = w.heap.size then k else g.im b
  split
  ·rename_i e;rw [h.imz b (by omega)];omega
  ·omega
 refine ⟨g',⟨?_,hx,(RowKit.Below.refl B w).alloc h.hB _,fun _ h => h,fun k hk _ => ⟨qgp hk,if_neg (by omega)⟩,fun k ⟨i,hi,e⟩ => .inl ⟨i,hi,by rw [← hx.bk _ hi rfl];exact e⟩⟩,if_pos rfl⟩
 constructor
 ·exact h.wf
 ·intro i hi
  have :=h.ge i hi
  refine ⟨?_,?_⟩
  ·cases ho:H.o i <;> rw [ho] at this <;> exact this.1
  ·have h2:g.bk (H.o i) i < (w.alloc (.cells arr ty)).heap.size :=by simp;omega
   cases ho:H.o i <;> rw [ho] at h2 <;> exact h2
 ·intro i j hi hj e
  refine h.inj i j hi hj ?_
  cases ho:H.o i <;> cases ho':H.o j <;> rw [ho,ho'] at e <;> exact e
 ·intro i
  by_cases hi:H.o i = .hole
  ·rw [hi];trivial
  ·have hge :=(h.ge i hi).2
   refine (h.rel i).ext hx (h.live i) hi ?_ ?_ rfl
   ·show (w.heap.push _)[_]? = _
    rw [Array.getElem?_push,if_neg (by omega)]
   ·show (if _ = w.heap.size then k else _) = _
    rw [if_neg (by omega)]
 ·exact h.live
 ·exact h.kp
 ·intro b hb
  simp at hb
  show (if b = w.heap.size then k else g.im b) = 0
  rw [if_neg (by omega)]
  exact h.imz b (by omega)
 ·simp;have :=h.hB;omega
theorem qiq (h:HRel g B w H) {xs:List AV} {arr:Array Value} {ty:TypeId} {n:Nat} (hv:VRels g w xs arr.toList) (hl:Lives H.L xs) :
  ∃ g',Out g B w H g' (w.alloc (.cells arr ty)) H ∧ VRel g' (w.alloc (.cells arr ty)) (.lst xs n .full) (.slice (some ⟨w.heap.size,0,none⟩) n n) ∧ Live H.L (.lst xs n .full) :=by
 obtain ⟨g',e1,e2⟩ :=h.newRow arr ty xs.length
 refine ⟨g',e1,?_,hl,fun c hc => by cases hc⟩
 simp only [VRel]
 refine ⟨w.heap.size,0,n,rfl,Nat.le_refl _,by omega,?_,rfl⟩
 refine LRel.of_get _ _ fun j a ha => ?_
 obtain ⟨v,f1,f2⟩ :=hv.get _ _ ha
 refine ⟨v,?_,f2.ext e1.ext _ _ (hl.mem _ _ (List.mem_of_getElem? ha))⟩
 have :=World.cell?_alloc_new w arr ty (0 + j)
 rw [this,Nat.zero_add]
 simpa using f1
def repN (zs:List AV):Nat → List AV
 | 0 => []
 |n + 1 => zs ++ repN zs n
theorem qkm (zs:List AV):∀ n,(repN zs n).length = n * zs.length
 | 0 => by simp [repN]
 |n + 1 => by simp [repN,qkm zs n,Nat.add_mul,Nat.add_comm]
theorem qpm (zs:List AV):∀ (n j:Nat),j < n * zs.length → (repN zs n)[j]? = zs[j % zs.length]?
 | 0,j,h => by simp at h
 |n + 1,j,h => by
  simp only [repN]
  by_cases e:j < zs.length
  ·rw [List.getElem?_append_left e,Nat.mod_eq_of_lt e]
  ·rw [List.getElem?_append_right (by omega),qpm zs n _ (by rw [Nat.add_mul,Nat.one_mul] at h;omega),← Nat.mod_eq_sub_mod (by omega)]
theorem qpl (zs:List AV):∀ (n:Nat) (a:AV),a ∈ repN zs n → a ∈ zs
 | 0,a,h => by simp [repN] at h
 |n + 1,a,h => by
  simp only [repN,List.mem_append] at h
  rcases h with h | h
  ·exact h
  ·exact qpl zs n a h
theorem qwa {zs:List AV} {z:Array Value} (h:VRels g w zs z.toList) (n:Nat):VRels g w (repN zs n) ((Array.range (n * z.size)).map (z[· % z.size]!)).toList :=by
 have hl :=h.length
 have hz:z.size = zs.length :=by rw [← hl];simp
 refine VRels.of_get _ _ (by rw [qkm];simp [hz]) fun j a ha => ?_
 have hj:j < n * zs.length :=by
  have :=(List.getElem?_eq_some_iff.1 ha).1
  rwa [qkm] at this
 rw [qpm _ _ _ hj] at ha
 obtain ⟨v,h1,h2⟩ :=h.get _ _ ha
 refine ⟨v,?_,h2⟩
 have h3:z[j % z.size]? = some v :=by rw [hz];simpa using h1
 have h4:z[j % z.size]! = v :=by
  rw [getElem!_def,h3]
 rw [Array.getElem?_toList,Array.getElem?_map,Array.getElem?_range,if_pos (by rw [hz];exact hj)]
 simp [h4]
def qep (T:Tr TypeInfo) (t:TypeId) (len:Nat) (parts:List (Nat × AV)):Plan :=
 match tyU T t with
 |some (.slice e) => match T.get e with
  |some i => match len with
   | 0 => match parts with
    | [] => .ret (.lst [] 0 .full)
    | _ => .fail
   |len + 1 => match i.zero with
    |some z => .chk (!((len + 1) * i.size == 0)) (.chk (decide ((len + 1) * i.size ≤ 16777216)) (.chk (qeh (ofVs z.cells.toList) i.size)
      (match qor (fun j => some (j * i.size,i.size)) (repN (ofVs z.cells.toList) (len + 1)) parts with
      |some out => .fL out fun l => .ret (.lst l (len + 1) .full)
      |none => .fail)))
    |none => .fail
  |none => .fail
 | _ => .fail
theorem qje (c:OCtx P T F g B w H s ev ρ) {t:TypeId} {len:Nat} {parts:Array (Nat × Operand)} (h:EvF s (qep T t len (parts.toList.map fun p => (p.1,ev p.2))) H.o r R W) :
  qay g B w H W ((do let v ← Instr.buildSlice t len (parts.map fun (i,x) => (i,ρ x));pure (.value v):Sem Next).run P w) r :=by
 have hp:(parts.map fun (x:Nat × Operand) => (x.1,ρ x.2)).toList = parts.toList.map fun p => (p.1,ρ p.2) :=by simp
 unfold qep at h
 split at h <;> try exact h.elim
 rename_i e hu
 have hu' :=qez c.T hu
 split at h <;> try exact h.elim
 rename_i i hi
 have hi' :=c.T _ _ hi
 split at h
 ·split at h <;> try exact h.elim
  rename_i hnil
  have hnil:parts.toList = [] :=by simpa using hnil
  obtain ⟨rfl,rfl⟩ :=qaq h
  obtain ⟨g',f1,f2,f3⟩ :=qiq (ty :=e) (n :=0) (xs :=[]) (arr :=#[]) c.h (by simp [VRels]) trivial
  refine ⟨_,g',_,?_,f1,f2,f3⟩
  have:parts = #[] :=by
   apply Array.ext'
   simpa using hnil
  subst this
  simp [Instr.buildSlice,run_underlying hu',sizeOf,typeInfo,hi',Instr.fill,newRow]
  have e0:Array.range 0 = #[] :=by apply Array.ext';simp
  rw [e0]
  simp
 ·rename_i len
  split at h <;> try exact h.elim
  rename_i z hz
  obtain ⟨h1,h2,h3,h⟩ :=h
  have h1:¬ (len + 1) * i.size = 0 :=by simpa using h1
  have h2 :=of_decide_eq_true h2
  have h3 :=qet h3
  split at h <;> try exact h.elim
  rename_i out hf
  obtain ⟨rfl,rfl⟩ :=qaq (s :=s) (o :=H.o) (r :=r) (R :=R) (W :=W) h
  have hzr :=qd3 g w z.cells.toList
  have hzs:z.cells.size = i.size :=by rw [← Array.length_toList,hzr.length,h3]
  have hrep :=qwa (n :=len + 1) hzr
  rw [hzs] at hrep
  obtain ⟨arr,f1,f2,f3⟩ :=qh1 c parts.toList _ out _ hf hrep (Lives.of_mem _ fun a ha => (qds _ _).mem _ _ (qpl _ _ _ ha))
  obtain ⟨g',k1,k2,k3⟩ :=qiq (ty :=e) (n :=len + 1) c.h f2 f3
  refine ⟨_,g',_,?_,k1,k2,k3⟩
  have :=run_buildSlice w t e (len + 1) (parts.map fun (x:Nat × Operand) => (x.1,ρ x.2)) arr i z hu' hi' hz (by omega) h1 (by rw [hp,hzs];exact f1)
  simp [this]
def qfi (T:Tr TypeInfo) (t:TypeId) (len cap:AV):Plan :=
 match tyU T t with
 |some (.slice e) => match T.get e with
  |some i => match qji T e with
   |some zs => match zs with
    | [z] => .chk (decide (i.size = 1)) (match len with
     | .int _ l => match cap with
      | .int _ c => .chk (decide (0 ≤ l)) (.chk (decide (l ≤ c)) (.chk (decide (c ≤ (ql8:Int))) (.chk (decide (i.bytes * c.toNat ≤ 2 * qjn))
        (.newc c.toNat z e fun id => .ret (.slc id 0 l.toNat c.toNat)))))
      | _ => .fail
     | _ => .fail)
    | _ => .fail
   |none => .fail
  |none => .fail
 | _ => .fail
theorem qr8 {x:Int} (h0:0 ≤ x) (h1:x ≤ 9223372036854775807):IntKind.i64.wrap x = x :=by
 have e:x % (2 ^ IntKind.i64.bits:Int) = x :=Int.emod_eq_of_lt h0 (by show x < 2 ^ 64;omega)
 unfold IntKind.wrap
 simp only [e]
 rw [if_neg]
 show ¬ ((true && decide (x ≥ (2:Int) ^ (64 - 1))) = true)
 simp
 omega
theorem qkz (c : OCtx P T F g B w H s ev ρ) {t : TypeId} {x y : Operand} (h : EvF s (qfi T t (ev x) (ev y)) H.o r R W) :
    qay g B w H W ((do let v ← Instr.makeSlice t (ρ x) (ρ y);pure (.value v):Sem Next).run P w) r :=by
  have hx :=c.rel x
  have hy :=c.rel y
  unfold qfi at h
  split at h <;> try exact h.elim
  rename_i e hu
  have hu' :=qan c.T hu w
  split at h <;> try exact h.elim
  rename_i i hi
  have hinf :=qb9 c.T hi w
  have hsz :=qbf c.T hi w
  split at h <;> try exact h.elim
  rename_i zs hz
  obtain ⟨zv,hzv,hze⟩ :=ql4 c.T hz
  split at h <;> try exact h.elim
  rename_i z0
  obtain ⟨h1,h⟩ :=h
  have h1 :=of_decide_eq_true h1
  split at h <;> try exact h.elim
  rename_i k l ex
  rw [ex] at hx
  simp only [VRel] at hx
  split at h <;> try exact h.elim
  rename_i k' cp ey
  rw [ey] at hy
  simp only [VRel] at hy
  obtain ⟨h2,h3,h4,h5,W',tr,htr,rfl,h⟩ :=h
  obtain ⟨rfl,rfl⟩ :=qaq h
  have h2 :=of_decide_eq_true h2
  have h3 :=of_decide_eq_true h3
  have h4 :=of_decide_eq_true h4
  have h5 :=of_decide_eq_true h5
  unfold ql8 at h4
  unfold qjn at h5
  have w1 :=qr8 h2 (by omega)
  have w2 :=qr8 (x :=cp) (by omega) (by omega)
  have hrel :=qd3 g w zv.cells.toList
  rw [← hze] at hrel
  have hzs:zv.cells.size = 1 :=by
    have :=hrel.length
    simpa using this
  obtain ⟨u,us,eu,hu1,hu2⟩ :=hrel
  have hu2:us = [] :=by simpa [VRels] using hu2
  subst hu2
  have hz0:∀ j:Nat,zv.cells[j % 1]! = u :=fun j => by
    have:zv.cells[0]? = some u :=by
      rw [← Array.getElem?_toList,eu];rfl
    rw [Nat.mod_one,getElem!_def,this]
  let arr:Array Value :=(Array.range (cp.toNat * i.size)).map ((if cp.toNat * i.size = 0 then #[] else zv.cells)[· % (if cp.toNat * i.size = 0 then (#[]:Array Value) else zv.cells).size]!)
  have harr:arr.size = cp.toNat :=by simp [arr,h1]
  have hgl:∀ j,j < cp.toNat → ∃ v,arr[j]? = some v ∧ VRel g w z0 v :=fun j hj => by
    have e0:¬ cp.toNat = 0 :=by omega
    refine ⟨u,?_,hu1⟩
    simp only [arr,h1,Nat.mul_one]
    rw [Array.getElem?_map,Array.getElem?_range,if_pos hj]
    simp only [Option.map_some,if_neg e0,hzs,hz0]
  obtain ⟨g',f1,f2⟩ :=c.h.newCopies c.s (ty :=e) htr harr hgl (by rw [show z0 = z0 from rfl];have :=qds H.L zv.cells.toList;rw [← hze] at this;exact this.1)
  refine ⟨.slice (some ⟨w.heap.size,0,none⟩) l.toNat cp.toNat,g',_,?_,f1,?_,AH.put_L_same H s _ (by simp)⟩
  · have t1:¬ cp < 0 :=by omega
    have t2:¬ ((i.bytes:Int) * cp > 281474976710656) :=by
      have:((i.bytes * cp.toNat:Nat):Int) = (i.bytes:Int) * cp :=by
        rw [Int.natCast_mul,Int.toNat_of_nonneg (by omega)]
      omega
    have t3:¬ l < 0 :=by omega
    have t4:¬ l > cp :=by omega
    have tl:(decide (cp < 0) || decide ((i.bytes:Int) * cp > 2 ^ 48)) = false :=by
      simp only [Bool.or_eq_false_iff,decide_eq_false_iff_not]
      refine ⟨t1,?_⟩
      intro hc
      exact t2 (by have : (2 : Int) ^ 48 = 281474976710656 := by decide
                   omega)
    by_cases e0:cp.toNat * i.size = 0
    · simp only [Instr.makeSlice,Sem.run_bind,hu',Result.andThen_ok,hx,hy,asInt,asIntOf,Sem.run_pure,hinf,w1,w2,tl,t3,t4,decide_false,Bool.or_false,Bool.false_eq_true,if_false,Sem.run_ite,run_askRoom,hsz,e0,if_true,newRow,run_newObj,arr]
      rfl
    · simp only [Instr.makeSlice,Sem.run_bind,hu',Result.andThen_ok,hx,hy,asInt,asIntOf,Sem.run_pure,hinf,w1,w2,tl,t3,t4,decide_false,Bool.or_false,Bool.false_eq_true,if_false,Sem.run_ite,run_askRoom,hsz,e0,hzv,newRow,run_newObj,arr]
      rfl
  · simp only [VRel];rw [f2]
end
end
end Go.Abs

/-! copy, maps, strings walked. -/
namespace Go.Abs
open Go
noncomputable section
section
variable {P:Program} {T:Tr TypeInfo} {F:Tr Func} {g:Gh} {B:Nat} {w:World} {H:AH} {s:Nat} {ev:Operand → AV} {ρ:Operand → Value} {r:PRes} {R:List Nat} {W:WL}
def qoc (e:TypeId) (d:AV) (l:List AV) (n:Nat):Plan :=
 match d with
 | .slc o off _ _ => .get o fun y => match y with
  | .cells _ _ ty => .chk (decide (ty = e)) (.chk (qda l) (.setcs o off l (.ret (.int .i64 n))))
  | _ => .fail
 | _ => .fail
def qzg (T:Tr TypeInfo) (t:TypeId) (d x:AV):Plan :=
 match tyU T t with
 |some (.slice e) => match T.get e with
  |some i => .chk (decide (i.size = 1)) (match d with
   | .slc _ _ len _ => match x with
    | .lst ys m _ => match qdk (Nat.min m len) ys with
     |some l => qoc e d l (Nat.min m len)
     |none => .fail
    | .slc o' off' m _ => .get o' fun y => match y with
     | .cells tr k _ => .chk (decide (off' + Nat.min m len ≤ k)) (match qmr tr off' (Nat.min m len) with
      |some l => qoc e d l (Nat.min m len)
      |none => .fail)
     | _ => .fail
    | .nils => .ret (.int .i64 0)
    | _ => .fail
   | _ => .fail)
  |none => .fail
 | _ => .fail
theorem qjr (c:OCtx P T F g B w H s ev ρ) {t tx ty e:TypeId} {i:TypeInfo} {d:Operand} {o off len cap:Nat} {l:List AV} {cs:List Value} {a:Addr} {m xcap:Nat} {o':Nat → AObj}
  (hd:ev d = .slc o off len cap) (ho':o' = H.o) (h:EvF s (qoc e (ev d) l (Nat.min m len)) o' r R W) (hu:P.underlying t = some (.slice e)) (hi:P.info? e = some i) (hs:i.size = 1)
  (hlen:cs.length = Nat.min m len) (hcs:∀ (j:Nat) v,cs[j]? = some v → w.cell? (a.add j) = some v) (hv:VRels g w l cs) (hl:Lives H.L l) :
  qay g B w H W ((do let v ← Builtin.copy_ #[t,tx] ty #[ρ d,.slice (some a) m xcap];pure (.value v):Sem Next).run P w) r :=by
 subst ho'
 have hx :=c.rel d
 rw [hd] at hx h
 simp only [VRel] at hx
 obtain ⟨R',_,h⟩ :=h
 simp only at h
 split at h <;> try exact h.elim
 rename_i tr n ty' ho
 obtain ⟨h1,h2,R2,W',tr',n',ty'',t',_,hoo,hn,hts,rfl,h⟩ :=h
 obtain ⟨rfl,rfl⟩ :=qaq h
 have h1 :=of_decide_eq_true h1
 subst h1
 rw [ho] at hoo
 injection hoo with e1 e2 e3
 subst e1;subst e2;subst e3
 obtain ⟨arr,f1,f2,f3⟩ :=c.h.setCells ho hn hts hv hl
 have hvl :=hv.length
 have hrun :=run_copy_row (P :=P) w t tx ty ty' (g.ob o) off len cap a m xcap arr ty' cs hu (by simp [hi,hs]) f1 hlen hcs (by omega) (qdy h2 hv)
 refine ⟨.int .i64 (Nat.min m len),g,_,?_,f3,by simp [VRel],trivial⟩
 simp [hx,hrun,goInt,hlen]
theorem qwi (c:OCtx P T F g B w H s ev ρ) {t tx ty:TypeId} {d x:Operand} (h:EvF s (qzg T t (ev d) (ev x)) H.o r R W) :
  qay g B w H W ((do let v ← Builtin.copy_ #[t,tx] ty #[ρ d,ρ x];pure (.value v):Sem Next).run P w) r :=by
 have hx :=c.rel x
 have hl :=c.live x
 unfold qzg at h
 split at h <;> try exact h.elim
 rename_i e hu
 have hu' :=qez c.T hu
 split at h <;> try exact h.elim
 rename_i i hi
 have hi' :=c.T _ _ hi
 obtain ⟨hs,h⟩ :=h
 have hs :=of_decide_eq_true hs
 split at h <;> try exact h.elim
 rename_i o off len cap ed
 split at h
 ·rename_i ys m own ex
  rw [ex] at hx hl
  simp only [VRel] at hx
  obtain ⟨b,off',xcap,e1,g1,g2,g3,g4⟩ :=hx
  split at h <;> try exact h.elim
  rename_i l hln
  obtain ⟨k1,k2⟩ :=qel hln
  obtain ⟨cs,f1,f2,f3⟩ :=g3.piece (off :=0) (by simpa using k1) k2
  rw [e1]
  exact qjr c ed rfl h hu' hi' hs f1 (by simpa using f2) f3 (by rw [k1];exact Lives.take hl.1 _)
 ·rename_i o' off' m xcap ex
  rw [ex] at hx
  simp only [VRel] at hx
  obtain ⟨R',_,h⟩ :=h
  simp only at h
  split at h <;> try exact h.elim
  rename_i tr k ty' ho
  obtain ⟨hb,h⟩ :=h
  have hb :=of_decide_eq_true hb
  split at h <;> try exact h.elim
  rename_i l hln
  obtain ⟨k1,k2⟩ :=qgc hln
  obtain ⟨cs,f1,f2,f3,f4⟩ :=c.h.cellsAt ho hb k1 k2
  rw [hx]
  exact qjr c ed rfl h hu' hi' hs f1 f2 f3 f4
 ·rename_i ex
  rw [ex] at hx
  simp only [VRel] at hx
  have hd :=c.rel d
  rw [ed] at hd
  simp only [VRel] at hd
  obtain ⟨rfl,rfl⟩ :=qaq h
  refine qay.pure c.h (u :=.int .i64 0) ?_ (by simp [VRel]) trivial
  simp [Builtin.copy_,run_underlying hu',sizeOf,typeInfo,hi',Builtin.lenOf,hx,hd,Builtin.firstCells,storeCells,goInt]
 ·exact h.elim
/-! ### Maps -/
def qk0:Plan :=.newo (.mapo []) fun i => .ret (.map i)
theorem qoa (c:OCtx P T F g B w H s ev ρ) {t:TypeId} (h:EvF s qk0 H.o r R W) :
  qay g B w H W ((do let v ← Instr.makeMap t none;pure (.value v):Sem Next).run P w) r :=by
 obtain ⟨W',rfl,h⟩ :=h
 obtain ⟨rfl,rfl⟩ :=qaq h
 obtain ⟨g',e1,e2⟩ :=c.h.newOb c.s (x :=.mapo []) (by simp) (fun _ _ => rfl) (.map #[] 0) 0 (by
  intro g' f1 f2 _ _
  exact ⟨#[],0,by rw [f1];exact qbo _ _,by rw [f1];exact f2,by simp [MRel]⟩) trivial (by intro p hp;cases hp)
 refine ⟨.map (some w.heap.size),g',_,rfl,e1,?_,AH.put_L_same H s _ (by simp)⟩
 simp only [VRel];rw [e2]
def ckey (T:Tr TypeInfo):Nat → TypeId → AV → Bool
 | 0,_,_ => false
 |d + 1,t,v =>
  match tyU T t with
  |some (.interface _) => false
  |some (.array _ _) => false
  |some (.struct fs) => match v with
   | .agg cs => ckeyF (fun t' v' => ckey T d t' v') T cs fs.toList
   | _ => false
  |some _ => true
  |none => false
where
 ckeyF (k:TypeId → AV → Bool) (T:Tr TypeInfo) (cs:List AV):List Field → Bool
  | [] => true
  |f :: fs => match qn7 T f.type cs f.offset with
   |some a => match k f.type a with
    |true => ckeyF k T cs fs
    |false => false
   |none => false
theorem qoy (hT:TOK P T) (em:Bool):∀ (d:Nat) (t:TypeId) (a:AV) (v:Value),ckey T d t a = true → VRel g w a v → ∀ k,(Instr.checkKey em (d + k) t v).run P w = .ok () w
 | 0,_,_,_,h,_ => by simp [ckey] at h
 |d + 1,t,a,v,h,hv => by
  intro k
  rw [show d + 1 + k = d + k + 1 by omega]
  unfold ckey at h
  split at h
  ·cases h
  ·cases h
  ·rename_i fs hu
   have hu' :=qan hT hu w
   split at h <;> try cases h
   rename_i cs
   obtain ⟨vs,e,hvs⟩ :=hv
   subst e
   rw [Instr.checkKey]
   simp only [Sem.run_bind,hu',Result.andThen_ok]
   rw [← Array.forIn_toList]
   generalize fs.toList = L at h ⊢
   induction L with
   |nil => simp
   |cons f L ih =>
    simp only [ckey.ckeyF] at h
    split at h <;> try cases h
    rename_i a ha
    split at h <;> try cases h
    rename_i hk
    obtain ⟨u,h1,h2,_⟩ :=qf8 hT ha hvs (Lives.any cs)
    have h3 :=qoy hT em d f.type a u hk h2 k
    by_cases hn:f.name = "_"
    ·simp only [List.forIn_cons,Sem.run_bind,hn,ne_eq,not_true_eq_false,if_false,Sem.run_pure,Result.andThen_ok]
     exact ih h
    ·simp only [List.forIn_cons,Sem.run_bind,hn,ne_eq,not_false_eq_true,if_true,h1,h3,Sem.run_pure,Result.andThen_ok]
     exact ih h
  ·rename_i dd hn1 hn2 hn3 hu
   have hu' :=qan hT hu w
   rw [Instr.checkKey]
   simp only [Sem.run_bind,hu',Result.andThen_ok]
   cases dd <;> first
    |exact absurd rfl (hn1 _)
    |exact absurd rfl (hn2 _ _)
    |exact absurd rfl (hn3 _)
    |rfl
  ·cases h
def qdh (P:Program) (T:Tr TypeInfo) (kt:TypeId) (k:AV):List (AV × AV) → Nat → Option (Option (Nat × AV))
 | [],_ => some none
 |(k',v) :: es,i => match aeqC P T 8 kt k k' with
  |some true => some (some (i,v))
  |some false => qdh P T kt k es (i + 1)
  |none => none
theorem qic {kt:TypeId} {kd:TypeDesc} (hu:tyU T kt = some kd) {d:Nat} {k k':AV} {u u':Value} (hk:VRel g w k u) (hk':VRel g w k' u') {b b':Bool}
  (h:Instr.sameNow kd u u' = some b) (ha:aeqC P T (d + 1) kt k k' = some b'):b = b' :=by
 unfold aeqC at ha
 rw [hu] at ha
 unfold Instr.sameNow at h
 split at h
 ·simp only at ha
  split at ha <;> try cases ha
  split at ha <;> try cases ha
  simp only [VRel] at hk hk'
  injection hk with e1 e2
  injection hk' with e3 e4
  subst e1;subst e2;subst e3;subst e4
  split at h <;> try cases h
  split at ha <;> cases ha
  all_goals rfl
 ·simp only at ha
  split at ha <;> try cases ha
  split at ha <;> try cases ha
  simp only [VRel] at hk hk'
  injection hk with e1
  injection hk' with e2
  subst e1;subst e2
  simp only [Option.some.injEq] at h
  subst h
  rw [beq_toListBytes]
  simp
 ·simp only at ha
  split at ha <;> try cases ha
  split at ha <;> try cases ha
  simp only [VRel] at hk hk'
  injection hk with e1
  injection hk' with e2
  subst e1;subst e2
  simp only [Option.some.injEq] at h
  exact h.symm
 ·cases h
theorem qj6 (hT:TOK P T) {kt:TypeId} {kd:TypeDesc} (hu:tyU T kt = some kd) {k:AV} {u:Value} (hk:VRel g w k u):∀ (es:List (AV × AV)) (ces:List MapEntry) (i:Nat)
  (res:Option (Nat × AV)) (cr:Option (Nat × Value)),MRel g w es ces → qdh P T kt k es i = some res → Instr.findNow kd u ces i = some cr →
  match res with
  |none => cr = none
  |some (j,a) => ∃ v,cr = some (j,v) ∧ VRel g w a v ∧ i ≤ j ∧ ∃ k',es[j - i]? = some (k',a)
 | [],ces,i,res,cr,hm,h,hc => by
  simp only [MRel] at hm
  subst hm
  simp only [qdh,Option.some.injEq] at h
  subst h
  simp only [Instr.findNow,Option.some.injEq] at hc
  exact hc.symm
 |(k',v) :: es,ces,i,res,cr,hm,h,hc => by
  obtain ⟨e,es',e1,h1,h2,h3⟩ :=hm
  subst e1
  simp only [Instr.findNow] at hc
  simp only [qdh] at h
  split at hc
  ·rename_i hs
   simp only [Option.some.injEq] at hc
   subst hc
   split at h
   ·simp only [Option.some.injEq] at h
    subst h
    exact ⟨_,rfl,h2,Nat.le_refl _,k',by simp⟩
   ·rename_i ha
    have :=qic (P :=P) (d :=7) hu hk h1 hs ha
    cases this
   ·cases h
  ·rename_i hs
   split at h
   ·rename_i ha
    have :=qic (P :=P) (d :=7) hu hk h1 hs ha
    cases this
   ·have :=qj6 hT hu hk es es' (i + 1) res cr h3 h hc
    cases res with
    |none => exact this
    |some p =>
     obtain ⟨v',q1,q2,q3,k'',q4⟩ :=this
     refine ⟨v',q1,q2,by omega,k'',?_⟩
     rw [show p.1 - i = p.1 - (i + 1) + 1 by omega]
     simpa using q4
   ·cases h
  ·cases hc
theorem qgn (hT:TOK P T) {kt:TypeId} {k:AV} {u:Value} (hk:VRel g w k u):∀ (es:List (AV × AV)) (ces:List MapEntry) (i:Nat)
  (res:Option (Nat × AV)),MRel g w es ces → qdh P T kt k es i = some res →
  ∃ cr,(Instr.findAsking kt u ces i).run P w = .ok cr w ∧ match res with
  |none => cr = none
  |some (j,a) => ∃ v,cr = some (j,v) ∧ VRel g w a v ∧ i ≤ j ∧ ∃ k',es[j - i]? = some (k',a)
 | [],ces,i,res,hm,h => by
  simp only [MRel] at hm
  subst hm
  simp only [qdh,Option.some.injEq] at h
  subst h
  exact ⟨none,rfl,rfl⟩
 |(k',v) :: es,ces,i,res,hm,h => by
  obtain ⟨e,es',e1,h1,h2,h3⟩ :=hm
  subst e1
  simp only [qdh] at h
  split at h
  ·rename_i ha
   simp only [Option.some.injEq] at h
   subst h
   have:(Op.equal kt u e.key).run P w = .ok true w :=qi8 hT 8 kt k k' true ha u e.key hk h1 9992
   exact ⟨some (i,e.val),by simp [Instr.findAsking,this],e.val,rfl,h2,Nat.le_refl _,k',by simp⟩
  ·rename_i ha
   have:(Op.equal kt u e.key).run P w = .ok false w :=qi8 hT 8 kt k k' false ha u e.key hk h1 9992
   obtain ⟨cr,q0,q⟩ :=qgn hT hk es es' (i + 1) res h3 h
   refine ⟨cr,by simp [Instr.findAsking,this,q0],?_⟩
   cases res with
   |none => exact q
   |some p =>
    obtain ⟨v',q1,q2,q3,k'',q4⟩ :=q
    refine ⟨v',q1,q2,by omega,k'',?_⟩
    rw [show p.1 - i = p.1 - (i + 1) + 1 by omega]
    simpa using q4
  ·cases h
theorem qei (hT:TOK P T) {kt:TypeId} {kd:TypeDesc} (hu:tyU T kt = some kd) {k:AV} {u:Value} (hk:VRel g w k u) {es:List (AV × AV)} {ces:List MapEntry}
  {res:Option (Nat × AV)} (hm:MRel g w es ces) (h:qdh P T kt k es 0 = some res) :
  ∃ cr,(Instr.findKey kt u ces).run P w = .ok cr w ∧ match res with
  |none => cr = none
  |some (j,a) => ∃ v,cr = some (j,v) ∧ VRel g w a v ∧ ∃ k',es[j]? = some (k',a) :=by
 have hu' :=qan hT hu w
 unfold Instr.findKey
 cases hn:Instr.findNow kd u ces 0 with
 |some cr =>
  have :=qj6 hT hu hk es ces 0 res cr hm h hn
  refine ⟨cr,by simp [hu',hn],?_⟩
  cases res with
  |none => exact this
  |some p =>
   obtain ⟨v,q1,q2,_,k',q4⟩ :=this
   exact ⟨v,q1,q2,k',by simpa using q4⟩
 |none =>
  obtain ⟨cr,q0,q⟩ :=qgn hT hk es ces 0 res hm h
  refine ⟨cr,by simp [hu',hn,q0],?_⟩
  cases res with
  |none => exact q
  |some p =>
   obtain ⟨v,q1,q2,_,k',q4⟩ :=q
   exact ⟨v,q1,q2,k',by simpa using q4⟩
def qhk (ok:Bool) (v:AV) (b:Bool):AV :=
 match ok with
 |true => .tup [v,.bool b]
 |false => v
def qk1 (P:Program) (T:Tr TypeInfo) (t:TypeId) (x k:AV) (ok:Bool):Plan :=
 match tyU T t with
 |some (.map kt et) => match tyU T kt with
  |some _ => .chk (ckey T 8 kt k) (match T.get et with
   |some i => match i.zero with
    |some z => match x with
     | .nilm => .ret (qhk ok (ofV z) false)
     | .map o => .get o fun y => match y with
      | .mapo es => match qdh P T kt k es 0 with
       |some (some (_,v)) => .ret (qhk ok v true)
       |some none => .ret (qhk ok (ofV z) false)
       |none => .fail
      | _ => .fail
     | _ => .fail
    |none => .fail
   |none => .fail)
  |none => .fail
 | _ => .fail
theorem qim {ok:Bool} {v:AV} {u:Value} {b:Bool} (h:VRel g w v u):VRel g w (qhk ok v b) (if ok then .tuple #[u,.bool b] else u) :=by
 cases ok
 ·exact h
 ·simp only [qhk,if_true,VRel]
  exact ⟨_,rfl,by simp [VRels,VRel,h]⟩
theorem qgx {L:Nat → Prop} {ok:Bool} {v:AV} {b:Bool} (h:Live L v):Live L (qhk ok v b) :=by
 cases ok
 ·exact h
 ·exact ⟨h,trivial,trivial⟩
theorem qdf.at {L:Nat → Prop}:∀ (es:List (AV × AV)) (j:Nat) (k v:AV),qdf L es → es[j]? = some (k,v) → Live L k ∧ Live L v
 |(k',v') :: es,0,k,v,h,hj => by simp at hj;obtain ⟨rfl,rfl⟩ :=hj;exact ⟨h.1,h.2.1⟩
 |(k',v') :: es,j + 1,k,v,h,hj => qdf.at es j k v h.2.2 (by simpa using hj)
theorem qrh (c:OCtx P T F g B w H s ev ρ) {t:TypeId} {x k:Operand} {ok:Bool} (h:EvF s (qk1 P T t (ev x) (ev k) ok) H.o r R W) :
  qay g B w H W ((do let v ← Instr.lookup t (ρ x) (ρ k) ok;pure (.value v):Sem Next).run P w) r :=by
 have hx :=c.rel x
 have hk :=c.rel k
 unfold qk1 at h
 split at h <;> try exact h.elim
 rename_i kt et hu
 have hu' :=qan c.T hu w
 split at h <;> try exact h.elim
 rename_i kd hkd
 obtain ⟨hck,h⟩ :=h
 have hck' :=fun em => qoy c.T em 8 kt _ _ hck hk 9992
 split at h <;> try exact h.elim
 rename_i i hi
 split at h <;> try exact h.elim
 rename_i z hz
 have hz' :=qcq c.T hi hz w
 split at h
 ·rename_i ex
  rw [ex] at hx
  simp only [VRel] at hx
  obtain ⟨rfl,rfl⟩ :=qaq h
  refine qay.pure c.h ?_ (qim (qfw g w z)) (qgx (qeq _ z))
  obtain ⟨cr,q0,q⟩ :=qei (es :=[]) c.T hkd hk (ces :=[]) (res :=none) (by simp [MRel]) rfl
  simp only at q
  subst q
  have h1 :=hck' true
  cases ok <;> simp [Instr.lookup,hu',hx,h1,q0,hz']
 ·rename_i o ex
  rw [ex] at hx
  simp only [VRel] at hx
  obtain ⟨R',_,h⟩ :=h
  simp only at h
  split at h <;> try exact h.elim
  rename_i es ho
  have hr :=c.h.rel o
  rw [ho] at hr
  obtain ⟨ces,ck,m1,_,m3⟩ :=hr
  have hl :=c.h.live o
  rw [ho] at hl
  split at h
  ·rename_i j v hf
   obtain ⟨rfl,rfl⟩ :=qaq h
   obtain ⟨cr,q0,q⟩ :=qei c.T hkd hk m3 hf
   obtain ⟨u,rfl,q2,k',q3⟩ :=q
   refine qay.pure c.h ?_ (qim q2) (qgx (qdf.at _ _ _ _ hl q3).2)
   have h1 :=hck' ces.isEmpty
   cases ok <;> simp [Instr.lookup,hu',hx,getObj,Sem.run,m1,h1,q0]
  ·rename_i hf
   obtain ⟨rfl,rfl⟩ :=qaq h
   obtain ⟨cr,q0,q⟩ :=qei c.T hkd hk m3 hf
   simp only at q
   subst q
   refine qay.pure c.h ?_ (qim (qfw g w z)) (qgx (qeq _ z))
   have h1 :=hck' ces.isEmpty
   cases ok <;> simp [Instr.lookup,hu',hx,getObj,Sem.run,m1,h1,q0,hz']
  ·exact h.elim
 ·exact h.elim
end
end
end Go.Abs

/-! Maps written, strings walked, nil checks. -/
namespace Go.Abs
open Go
noncomputable section
section
variable {P:Program} {T:Tr TypeInfo} {F:Tr Func} {g:Gh} {B:Nat} {w:World} {H:AH} {s:Nat} {ev:Operand → AV} {ρ:Operand → Value} {r:PRes} {R:List Nat} {W:WL}
def qfu (f:AV → AV → Bool):List AV → List AV → Bool
 | [],[] => true
 |x :: xs,y :: ys => match f x y with
  |true => qfu f xs ys
  |false => false
 | _,_ => false
def qkk:Nat → AV → AV → Bool
 | 0,_,_ => false
 |n + 1,x,y => match x with
  | .bool a => match y with
   | .bool b => a == b
   | _ => false
  | .int j a => match y with
   | .int k b => decide (j = k) && a == b
   | _ => false
  | .str a => match y with
   | .str b => a == b
   | _ => false
  | .agg a => match y with
   | .agg b => qfu (qkk n) a b
   | _ => false
  | _ => false
theorem qjm {f:AV → AV → Bool} {n:Nat} (hf:∀ x y u v,f x y = true → VRel g w x u → VRel g w y v → Instr.sameBits n u v = true) :
  ∀ (xs ys:List AV) (us vs:List Value),qfu f xs ys = true → VRels g w xs us → VRels g w ys vs → us.length = vs.length ∧ (us.zip vs).all (fun (x,y) => Instr.sameBits n x y) = true
 | [],[],us,vs,_,hu,hv => by simp only [VRels] at hu hv;subst hu;subst hv;simp
 |x :: xs,y :: ys,us,vs,h,hu,hv => by
  obtain ⟨u,us',e,h1,h2⟩ :=hu
  obtain ⟨v,vs',e',h3,h4⟩ :=hv
  subst e;subst e'
  simp only [qfu] at h
  split at h <;> try cases h
  rename_i hxy
  obtain ⟨k1,k2⟩ :=qjm hf xs ys us' vs' h h2 h4
  refine ⟨by simp [k1],?_⟩
  simp only [List.zip_cons_cons,List.all_cons,Bool.and_eq_true]
  exact ⟨hf x y u v hxy h1 h3,k2⟩
 | [],_ :: _,_,_,h,_,_ => by simp [qfu] at h
 | _ :: _,[],_,_,h,_,_ => by simp [qfu] at h
theorem qph:∀ (n:Nat) (x y:AV) (u v:Value) (k:Nat),qkk n x y = true → VRel g w x u → VRel g w y v → Instr.sameBits (n + k) u v = true
 | 0,_,_,_,_,_,h,_,_ => by simp [qkk] at h
 |n + 1,x,y,u,v,k,h,hu,hv => by
  rw [show n + 1 + k = n + k + 1 by omega]
  unfold qkk at h
  split at h <;> try cases h
  ·split at h <;> try cases h
   simp only [VRel] at hu hv
   subst hu;subst hv
   simpa [Instr.sameBits] using h
  ·split at h <;> try cases h
   simp only [VRel] at hu hv
   subst hu;subst hv
   simpa [Instr.sameBits] using h
  ·split at h <;> try cases h
   simp only [VRel] at hu hv
   subst hu;subst hv
   simp only [Instr.sameBits]
   rw [beq_toListBytes]
   simpa using h
  ·split at h <;> try cases h
   obtain ⟨us,e,h1⟩ :=hu
   obtain ⟨vs,e',h2⟩ :=hv
   subst e;subst e'
   obtain ⟨k1,k2⟩ :=qjm (n :=n + k) (fun x y u v hxy hu hv => qph n x y u v k hxy hu hv) _ _ _ _ h h1 h2
   simp only [Instr.sameBits,Bool.and_eq_true,beq_iff_eq]
   exact ⟨by simpa using k1,k2⟩
def setE:List (AV × AV) → Nat → AV × AV → List (AV × AV)
 | [],_,_ => []
 |x :: xs,i,p => match i with
  | 0 => p :: xs
  |i + 1 => x :: setE xs i p
def qlj:List (AV × AV) → Nat → Option AV
 | [],_ => none
 |x :: xs,i => match i with
  | 0 => some x.1
  |i + 1 => qlj xs i
def qgv:List (AV × AV) → AV × AV → List (AV × AV)
 | [],p => [p]
 |x :: xs,p => x :: qgv xs p
theorem MRel.snoc {k v:AV} {e:MapEntry} (hk:VRel g w k e.key) (hv:VRel g w v e.val):∀ {es:List (AV × AV)} {ces:List MapEntry},MRel g w es ces → MRel g w (qgv es (k,v)) (ces ++ [e])
 | [],ces,h => by
  simp only [MRel] at h
  subst h
  simp only [qgv,MRel]
  exact ⟨e,[],rfl,hk,hv,rfl⟩
 |(k',v') :: es,ces,h => by
  obtain ⟨e',es',e1,h1,h2,h3⟩ :=h
  subst e1
  simp only [qgv,MRel,List.cons_append]
  exact ⟨e',_,rfl,h1,h2,MRel.snoc hk hv h3⟩
theorem MRel.set {k v:AV} {f:MapEntry → MapEntry} (hk:∀ e,VRel g w k (f e).key) (hv:∀ e,VRel g w v (f e).val):∀ {es:List (AV × AV)} {ces:List MapEntry} (i:Nat),MRel g w es ces →
  MRel g w (setE es i (k,v)) (ces.modify i f)
 | [],ces,i,h => by
  simp only [MRel] at h
  subst h
  simp [setE,MRel]
 |(k',v') :: es,ces,0,h => by
  obtain ⟨e',es',e1,h1,h2,h3⟩ :=h
  subst e1
  simp only [setE,List.modify_zero_cons,MRel]
  exact ⟨_,_,rfl,hk e',hv e',h3⟩
 |(k',v') :: es,ces,i + 1,h => by
  obtain ⟨e',es',e1,h1,h2,h3⟩ :=h
  subst e1
  simp only [setE,List.modify_succ_cons,MRel]
  exact ⟨e',_,rfl,h1,h2,MRel.set hk hv i h3⟩
theorem qmt:∀ {es:List (AV × AV)} {ces:List MapEntry} {i:Nat} {k:AV},MRel g w es ces → qlj es i = some k → ∃ e,ces[i]? = some e ∧ VRel g w k e.key
 | [],_,_,_,_,h => by simp [qlj] at h
 |(k',v') :: es,ces,0,k,hm,h => by
  obtain ⟨e',es',e1,h1,h2,h3⟩ :=hm
  subst e1
  simp only [qlj,Option.some.injEq] at h
  subst h
  exact ⟨e',by simp,h1⟩
 |(k',v') :: es,ces,i + 1,k,hm,h => by
  obtain ⟨e',es',e1,h1,h2,h3⟩ :=hm
  subst e1
  simp only [qlj] at h
  obtain ⟨e,f1,f2⟩ :=qmt h3 h
  exact ⟨e,by simpa using f1,f2⟩
theorem qdf.snoc {L:Nat → Prop} {k v:AV} (hk:Live L k) (hv:Live L v):∀ {es:List (AV × AV)},qdf L es → qdf L (qgv es (k,v))
 | [],_ => ⟨hk,hv,trivial⟩
 |(_,_) :: _,h => ⟨h.1,h.2.1,qdf.snoc hk hv h.2.2⟩
theorem qdf.set {L:Nat → Prop} {k v:AV} (hk:Live L k) (hv:Live L v):∀ {es:List (AV × AV)} (i:Nat),qdf L es → qdf L (setE es i (k,v))
 | [],_,_ => trivial
 |(_,_) :: _,0,h => ⟨hk,hv,h.2.2⟩
 |(_,_) :: _,i + 1,h => ⟨h.1,h.2.1,qdf.set hk hv i h.2.2⟩
theorem qma:∀ {es:List (AV × AV)} {p q:AV × AV},q ∈ qgv es p → q ∈ es ∨ q = p
 | [],p,q,h => by simp [qgv] at h;exact .inr h
 |x :: es,p,q,h => by
  simp only [qgv,List.mem_cons] at h ⊢
  rcases h with h | h
  ·exact .inl (.inl h)
  ·rcases qma h with h | h
   ·exact .inl (.inr h)
   ·exact .inr h
theorem qpg:∀ {es:List (AV × AV)} {i:Nat} {p q:AV × AV},q ∈ setE es i p → q ∈ es ∨ q = p
 | [],_,p,q,h => by simp [setE] at h
 |x :: es,0,p,q,h => by
  simp only [setE,List.mem_cons] at h ⊢
  rcases h with h | h
  ·exact .inr h
  ·exact .inl (.inr h)
 |x :: es,i + 1,p,q,h => by
  simp only [setE,List.mem_cons] at h ⊢
  rcases h with h | h
  ·exact .inl (.inl h)
  ·rcases qpg h with h | h
   ·exact .inl (.inr h)
   ·exact .inr h
def qgy (P:Program) (T:Tr TypeInfo) (t:TypeId) (x k v:AV):Plan :=
 match tyU T t with
 |some (.map kt _) => match tyU T kt with
  |some _ => .chk (ckey T 8 kt k) (match x with
   | .map o => .get o fun y => match y with
    | .mapo es => match qdh P T kt k es 0 with
     |some (some (i,_)) => match qlj es i with
      |some k' => .chk (qkk 8 k' k) (.seto o (.mapo (setE es i (k,v))) (Nat.max (bd k) (bd v)) .skip)
      |none => .fail
     |some none => .seto o (.mapo (qgv es (k,v))) (Nat.max (bd k) (bd v)) .skip
     |none => .fail
    | _ => .fail
   | _ => .fail)
  |none => .fail
 | _ => .fail
theorem qxx (h:HRel g B w H) {o:Nat} {es es':List (AV × AV)} {ces':Array MapEntry} {ck':Nat} {rb:Nat} (ho:H.o o = .mapo es)
  (him:g.im (g.ob o) = 0) (hm:MRel g w es' ces'.toList) (hl:qdf H.L es') (hbd:∀ p,p ∈ es' → p ∈ es ∨ (bd p.1 ≤ rb ∧ bd p.2 ≤ rb)) :
  Out g B w H g { w with heap :=w.heap.setIfInBounds (g.ob o) (.map ces' ck') } (H.put o (.mapo es') rb) :=by
 have hLo:H.L o :=by unfold AH.L;rw [ho];simp
 have hlt:g.ob o < w.heap.size :=by
  have :=(h.ge o hLo).2
  rw [ho] at this
  exact this
 refine h.setOb hLo (by rw [ho];rfl) him (by simp) rfl rb (by simp) (fun k hk => ?_) rfl rfl rfl ?_ ?_ ?_
 ·show (w.heap.setIfInBounds (g.ob o) _)[k]? = _
  rw [Array.getElem?_setIfInBounds_ne (by omega)]
 ·intro hx
  refine ⟨ces',ck',?_,him,hm.ext hx _ _ hl⟩
  show (w.heap.setIfInBounds (g.ob o) _)[g.ob o]? = _
  rw [Array.getElem?_setIfInBounds_self_of_lt hlt]
 ·exact hl.mono fun i hi => AH.put_L H o rb (by simp) hi
 ·intro p hp
  have hkp :=h.kp o
  rw [ho] at hkp
  have :=AH.put_keep H o (.mapo es') rb
  have hr :=AH.put_bd H o (.mapo es') rb
  rcases hbd p hp with hp | ⟨h1,h2⟩
  ·have :=hkp p hp
   exact ⟨by omega,by omega⟩
  ·exact ⟨by omega,by omega⟩
theorem qjq (c:OCtx P T F g B w H s ev ρ) {t:TypeId} {x k v:Operand} (h:EvF s (qgy P T t (ev x) (ev k) (ev v)) H.o r R W) :
  qay g B w H W ((do Instr.mapUpdate t (ρ x) (ρ k) (ρ v);pure .skip:Sem Next).run P w) r :=by
 have hx :=c.rel x
 have hk :=c.rel k
 have hv :=c.rel v
 unfold qgy at h
 split at h <;> try exact h.elim
 rename_i kt et hu
 have hu' :=qan c.T hu w
 split at h <;> try exact h.elim
 rename_i kd hkd
 obtain ⟨hck,h⟩ :=h
 have hck' :=qoy c.T false 8 kt _ _ hck hk 9992
 split at h <;> try exact h.elim
 rename_i o ex
 rw [ex] at hx
 simp only [VRel] at hx
 obtain ⟨R',_,h⟩ :=h
 simp only at h
 split at h <;> try exact h.elim
 rename_i es ho
 have hr :=c.h.rel o
 rw [ho] at hr
 obtain ⟨ces,ck,m1,m2,m3⟩ :=hr
 have hl :=c.h.live o
 rw [ho] at hl
 split at h
 ·rename_i j v' hf
  split at h <;> try exact h.elim
  rename_i k' hk'
  obtain ⟨hsame,R2,W',_,rfl,h⟩ :=h
  obtain ⟨rfl,_,rfl⟩ :=h
  obtain ⟨cr,q0,q⟩ :=qei c.T hkd hk m3 hf
  obtain ⟨u,rfl,q2,k'',q3⟩ :=q
  obtain ⟨e,e1,e2⟩ :=qmt m3 hk'
  have hsb :=qph 8 k' (ev k) e.key (ρ k) 9992 hsame e2 hk
  have e1':ces[j]? = some e :=by simpa using e1
  have hout :=qxx c.h ho m2 (ces' :=ces.modify j fun e => { e with key :=ρ k,val :=ρ v }) (ck' :=ck) (rb :=Nat.max (bd (ev k)) (bd (ev v)))
   (by rw [Array.toList_modify];exact m3.set (fun _ => hk) (fun _ => hv) j) (hl.set (c.live k) (c.live v) j) (fun p hp => by
    rcases qpg hp with hp | hp
    ·exact .inl hp
    ·subst hp;exact .inr ⟨Nat.le_max_left _ _,Nat.le_max_right _ _⟩)
  refine ⟨g,_,?_,hout⟩
  simp [Instr.mapUpdate,hu',hx,getObj,setObj,Sem.run,m1,hck',q0,e1',Instr.keyThatStays,hsb]
 ·rename_i hf
  obtain ⟨R2,W',_,rfl,h⟩ :=h
  obtain ⟨rfl,_,rfl⟩ :=h
  obtain ⟨cr,q0,q⟩ :=qei c.T hkd hk m3 hf
  simp only at q
  subst q
  have hout :=qxx c.h ho m2 (ces' :=ces.push { key :=ρ k,val :=ρ v,born :=ck }) (ck' :=ck + 1) (rb :=Nat.max (bd (ev k)) (bd (ev v)))
   (by rw [Array.toList_push];exact m3.snoc hk hv) (hl.snoc (c.live k) (c.live v)) (fun p hp => by
    rcases qma hp with hp | hp
    ·exact .inl hp
    ·subst hp;exact .inr ⟨Nat.le_max_left _ _,Nat.le_max_right _ _⟩)
  refine ⟨g,_,?_,hout⟩
  simp [Instr.mapUpdate,hu',hx,getObj,setObj,Sem.run,m1,hck',q0]
 ·exact h.elim
/-! ### Strings walked -/
def qpt (T:Tr TypeInfo) (t:TypeId) (x:AV):Plan :=
 match tyU T t with
 |some .string => match x with
  | .str l => .newo (.siter l 0) fun i => .ret (.ptr i 0)
  | _ => .fail
 | _ => .fail
theorem qth (c:OCtx P T F g B w H s ev ρ) {t:TypeId} {x:Operand} (h:EvF s (qpt T t (ev x)) H.o r R W) :
  qay g B w H W ((do let v ← Instr.range t (ρ x);pure (.value v):Sem Next).run P w) r :=by
 have hx :=c.rel x
 unfold qpt at h
 split at h <;> try exact h.elim
 rename_i hu
 have hu' :=qan c.T hu w
 split at h <;> try exact h.elim
 rename_i l ex
 rw [ex] at hx
 simp only [VRel] at hx
 obtain ⟨W',rfl,h⟩ :=h
 obtain ⟨rfl,rfl⟩ :=qaq h
 obtain ⟨g',e1,e2⟩ :=c.h.newOb c.s (x :=.siter l 0) (by simp) (fun _ _ => rfl) (.stringIter ⟨l.toArray⟩ 0) 0 (by
  intro g' f1 f2 _ _
  exact ⟨by rw [f1];exact qbo _ _,by rw [f1];exact f2⟩) trivial trivial
 refine ⟨.pointer (some ⟨w.heap.size,0,none⟩),g',_,?_,e1,?_,AH.put_L_same H s _ (by simp)⟩
 ·simp [Instr.range,hu',hx]
 ·simp only [VRel];rw [e2]
def qwg (x:AV):Plan :=
 match x with
 | .ptr o off => match off with
  | 0 => .get o fun y => match y with
   | .siter l pos => match decide (pos < l.length) with
    |true => match Utf8.decode ⟨l.toArray⟩ pos with
     |(ch,width) => .seto o (.siter l (pos + width)) 0 (.ret (.tup [.bool true,.int .i64 pos,.int .i32 ch]))
    |false => .ret (.tup [.bool false])
   | _ => .fail
  | _ => .fail
 | _ => .fail
theorem qwf (c:OCtx P T F g B w H s ev ρ) {t:TypeId} {x:Operand} (h:EvF s (qwg (ev x)) H.o r R W) :
  qay g B w H W ((do let v ← Instr.next (ρ x) true t;pure (.value v):Sem Next).run P w) r :=by
 have hx :=c.rel x
 unfold qwg at h
 split at h <;> try exact h.elim
 rename_i o off ex
 rw [ex] at hx
 simp only [VRel] at hx
 split at h <;> try exact h.elim
 obtain ⟨R',_,h⟩ :=h
 simp only at h
 split at h <;> try exact h.elim
 rename_i l pos ho
 have hr :=c.h.rel o
 rw [ho] at hr
 obtain ⟨m1,m2⟩ :=hr
 have hLo:H.L o :=by unfold AH.L;rw [ho];simp
 have hlt:g.ob o < w.heap.size :=by
  have :=(c.h.ge o hLo).2
  rw [ho] at this
  exact this
 have es:(⟨l.toArray⟩ : ByteArray).size = l.length :=rfl
 split at h
 ·rename_i hp
  have hp :=of_decide_eq_true hp
  generalize hd:Utf8.decode ⟨l.toArray⟩ pos = cw at h
  obtain ⟨ch,width⟩ :=cw
  simp only at h
  obtain ⟨R2,W',_,rfl,h⟩ :=h
  obtain ⟨rfl,rfl⟩ :=qaq h
  have hout:Out g B w H g { w with heap :=w.heap.setIfInBounds (g.ob o) (.stringIter ⟨l.toArray⟩ (pos + width)) } (H.put o (.siter l (pos + width)) 0) :=by
   refine c.h.setOb hLo (by rw [ho];rfl) m2 (by simp) rfl 0 (by simp) (fun k hk => ?_) rfl rfl rfl ?_ trivial trivial
   ·show (w.heap.setIfInBounds (g.ob o) _)[k]? = _
    rw [Array.getElem?_setIfInBounds_ne (by omega)]
   ·intro _
    refine ⟨?_,m2⟩
    show (w.heap.setIfInBounds (g.ob o) _)[g.ob o]? = _
    rw [Array.getElem?_setIfInBounds_self_of_lt hlt]
  refine ⟨.tuple #[.bool true,.int .i64 pos,.int .i32 ch],g,_,?_,hout,?_,?_⟩
  ·simp [Instr.next,hx,getObj,setObj,Sem.run,m1,es,hp,hd,goInt]
  ·simp only [VRel]
   exact ⟨_,rfl,by simp [VRels,VRel]⟩
  ·exact ⟨trivial,trivial,trivial,trivial⟩
 ·rename_i hp
  have hp :=of_decide_eq_false hp
  obtain ⟨rfl,rfl⟩ :=qaq h
  refine qay.pure c.h (u :=.tuple #[.bool false]) ?_ ?_ ⟨trivial,trivial⟩
  ·simp [Instr.next,hx,getObj,Sem.run,m1,es,hp]
  ·simp only [VRel]
   exact ⟨_,rfl,by simp [VRels,VRel]⟩
end
end
end Go.Abs

/-! Calls, and the plan of any operation. -/
namespace Go.Abs
open Go
noncomputable section
def qw6:ExtK → Array Value → Sem Value
 | .count => Extern.BytealgCount.count
 | .indexByte => Extern.BytealgIndexByte.indexByte
def XOK (P:Program) (X:XT):Prop :=
 (∀ f k,X.ext f = some k → ∀ args w,(callFunc f args).run P w = ((qw6 k args).run P w).andThen fun v w' => .ok (.value v) w') ∧ QOK P X.eqv
def pExt (k:ExtK) (args:List AV):Plan :=
 match args with
 |a :: as => match as with
  |b :: bs => match bs with
   | [] => match a with
    | .str l => match b with
     | .int kd c => match kd with
      | .u8 => match k with
       | .count => .ret (.int .i64 (Lib.countByte l c.toNat.toUInt8:Nat))
       | .indexByte => .ret (.int .i64 (Lib.indexByte l c.toNat.toUInt8))
      | _ => .fail
     | _ => .fail
    | _ => .fail
   | _ => .fail
  | _ => .fail
 | _ => .fail
section
variable {P:Program} {T:Tr TypeInfo} {F:Tr Func} {g:Gh} {B:Nat} {w:World} {H:AH} {s:Nat} {ev:Operand → AV} {ρ:Operand → Value} {r:PRes} {R:List Nat} {W:WL}
theorem qzf (hr:HRel g B w H) {X:XT} (hX:XOK P X) {f:FuncId} {k:ExtK} (hf:X.ext f = some k) {args:List AV} {vs:Array Value} (hv:VRels g w args vs.toList)
  (h:EvF s (pExt k args) H.o r R W):qay g B w H W ((callFunc f vs).run P w) r :=by
 unfold pExt at h
 split at h <;> try exact h.elim
 split at h <;> try exact h.elim
 split at h <;> try exact h.elim
 split at h <;> try exact h.elim
 rename_i l
 split at h <;> try exact h.elim
 split at h <;> try exact h.elim
 rename_i c _
 obtain ⟨u,us,e1,h1,u2,us2,e2,h2,e3⟩ :=hv
 simp only [VRel] at h1 h2
 simp only [VRels] at e3
 subst h1;subst h2;subst e3;subst e2
 have hvs:vs = #[.string ⟨l.toArray⟩,.int .u8 c] :=by
  apply Array.ext'
  rw [e1]
 subst hvs
 split at h
 ·obtain ⟨rfl,rfl⟩ :=qaq h
  refine qay.pure hr (u :=.int .i64 (Lib.countByte l c.toNat.toUInt8:Nat)) ?_ (by simp [VRel]) trivial
  rw [hX.1 f _ hf]
  simp only [qw6]
  rw [Lib.run_countString]
  rfl
 ·obtain ⟨rfl,rfl⟩ :=qaq h
  refine qay.pure hr (u :=.int .i64 (Lib.indexByte l c.toNat.toUInt8)) ?_ (by simp [VRel]) trivial
  rw [hX.1 f _ hf]
  simp only [qw6]
  rw [Lib.run_indexByteString]
  rfl
def qjs (F:Tr Func) (X:XT) (f:FuncId) (args:List AV):Plan :=
 match F.get f with
 |some fn => match fn.body with
  |some _ => .fL args fun l => .call f l
  |none => match X.ext f with
   |some k => pExt k args
   |none => .fail
 |none => .fail
theorem qmk (hF:FOK P F) (hr:HRel g B w H) {X:XT} (hX:XOK P X) {f:FuncId} {args:List AV} {vs:Array Value} (hv:VRels g w args vs.toList) (hl:Lives H.L args)
  (h:EvF s (qjs F X f args) H.o r R W):qay g B w H W ((callFunc f vs).run P w) r :=by
 unfold qjs at h
 split at h <;> try exact h.elim
 rename_i fn hfn
 obtain ⟨h1,h2⟩ :=hF f fn hfn
 split at h
 ·rename_i body hb
  obtain ⟨rfl,_,rfl⟩ :=h
  refine ⟨rfl,vs,?_,hv,hl⟩
  simp only [callFunc,Sem.run_bind,run_program,Result.andThen_ok,h1,h2,Bool.false_eq_true,if_false,hb,Option.isNone_some,Sem.run_pure]
 ·split at h <;> try exact h.elim
  rename_i k hk
  exact qzf hr hX hk hv h
def qpz (F:Tr Func) (X:XT) (fv:AV) (args:List AV):Plan :=
 match fv with
 | .func fn first cap => match fn with
  | .func f => qjs F X f (first ++ (args ++ cap))
  | _ => .fail
 | .yld l => .get l fun y => match y with
  | .loop _ _ _ _ params _ _ _ => .chk (qeh args params.length) (.fL args fun as => .yld l as)
  | _ => .fail
 | _ => .fail
theorem qtp (c:OCtx P T F g B w H s ev ρ) {X:XT} (hX:XOK P X) {fo:Operand} {args:Array Operand} (h:EvF s (qpz F X (ev fo) (args.toList.map ev)) H.o r R W) :
  qay g B w H W ((do let d ← Deferred.ofValue (ρ fo) (args.map ρ);invoke d.target d.args:Sem Next).run P w) r :=by
 have hf :=c.rel fo
 have hlf :=c.live fo
 obtain ⟨ha,hla⟩ :=VRels.map c args.toList
 have ha':VRels g w (args.toList.map ev) (args.map ρ).toList :=by simpa using ha
 unfold qpz at h
 split at h
 ·rename_i fn first cap ef
  rw [ef] at hf hlf
  obtain ⟨vf,vc,e1,h1,h2⟩ :=hf
  split at h <;> try exact h.elim
  rename_i f
  have hall:VRels g w (first ++ (args.toList.map ev ++ cap)) ((vf ++ args.map ρ) ++ vc).toList :=by
   rw [Array.toList_append,Array.toList_append,List.append_assoc]
   exact h1.append (ha'.append h2)
  have :=qmk c.F c.h hX hall (Lives.append hlf.1 (Lives.append hla hlf.2)) h
  simpa [e1,Deferred.ofValue,invoke] using this
 ·rename_i l ef
  rw [ef] at hf hlf
  simp only [VRel] at hf
  obtain ⟨R',_,h⟩ :=h
  simp only at h
  split at h <;> try exact h.elim
  rename_i st fn tm nt params assign body dfr ho
  obtain ⟨hn,h⟩ :=h
  obtain ⟨rfl,_,rfl⟩ :=h
  have hn :=qet hn
  have hr :=c.h.rel l
  rw [ho] at hr
  obtain ⟨lp,q1,q2,q3,q4,q6,q7,q8,q9,q10⟩ :=hr
  have hsz:(args.map ρ).size = params.length :=by
   have :=ha'.length
   simpa [hn] using this
  have hps:lp.params.size = params.length :=by rw [← q7];simp
  refine ⟨rfl,hlf,args.map ρ,⟨st,fn,tm,nt,params,assign,body,dfr,ho,hsz,lp,q1,?_⟩,ha',hla⟩
  simp [hf,Deferred.ofValue,invoke,Instr.yield,Instr.getLoop,getObj,Sem.run,q1,hps,← hsz]
 ·exact h.elim
end
end
end Go.Abs

/-! The plan of any operation. -/
namespace Go.Abs
open Go
noncomputable section
section
variable {P:Program} {T:Tr TypeInfo} {F:Tr Func} {g:Gh} {B:Nat} {w:World} {H:AH} {s:Nat} {ev:Operand → AV} {ρ:Operand → Value} {r:PRes} {R:List Nat} {W:WL}
def qk2 (T:Tr TypeInfo) (F:Tr Func) (X:XT) (recv:AV) (name:String) (args:List AV):Plan :=
 match recv with
 | .iface t v => match T.get t with
  |some i => match i.methods.find? (·.name == name) with
   |some m => match m.path.toList with
    | [] => match m.func with
     |some (f,pr) => match tyU T t with
      |some (.pointer _) => match pr with
       |true => qjs F X f (v :: args)
       |false => .fail
      |some _ => match pr with
       |false => qjs F X f (v :: args)
       |true => .fail
      |none => .fail
     |none => .fail
    | _ => .fail
   |none => .fail
  |none => .fail
 | _ => .fail
theorem qri (c:OCtx P T F g B w H s ev ρ) {X:XT} (hX:XOK P X) {x:Operand} {name:String} {args:List Operand} {vs:Array Value} (hvs:vs.toList = args.map ρ)
  (h:EvF s (qk2 T F X (ev x) name (args.map ev)) H.o r R W) :
  qay g B w H W ((callMethod (ρ x) name vs).run P w) r :=by
 have hx :=c.rel x
 have hl :=c.live x
 obtain ⟨ha,hla⟩ :=VRels.map c args
 unfold qk2 at h
 split at h <;> try exact h.elim
 rename_i t v ex
 rw [ex] at hx hl
 obtain ⟨u,eu,hv⟩ :=hx
 split at h <;> try exact h.elim
 rename_i i hi
 have hi' :=qb9 c.T hi w
 split at h <;> try exact h.elim
 rename_i m hm
 split at h <;> try exact h.elim
 rename_i hpath
 split at h <;> try exact h.elim
 rename_i f pr hfn
 obtain ⟨fuel,hfuel⟩ : ∃ k,P.types.size + Made.depth = k + 1 :=⟨P.types.size + (Made.depth - 1),by
  have:0 < Made.depth :=by decide
  omega⟩
 have key:∀ pr,m.func = some (f,pr) → (receiverAt t (.val u) pr (if m.path.isEmpty then some ((name.splitOn ".").getLastD name) else none)).run P w = .ok u w →
   EvF s (qjs F X f (v :: args.map ev)) H.o r R W → qay g B w H W ((callMethod (ρ x) name vs).run P w) r :=by
  intro pr hfn hrec h
  have hall:VRels g w (v :: args.map ev) (#[u] ++ vs).toList :=by
   rw [Array.toList_append,hvs]
   simp only [List.cons_append,List.nil_append,VRels]
   exact ⟨u,_,rfl,hv,ha⟩
  have :=qmk c.F c.h hX hall ⟨hl,hla⟩ h
  have hmeth:(method (P.types.size + Made.depth) t u name).run P w = .ok (f,u) w :=by
   rw [hfuel,method]
   simp only [Sem.run_bind,hi',Result.andThen_ok,hm,hpath,follow,Sem.run_pure,hfn,hrec]
  rw [eu]
  simp only [callMethod,Sem.run_bind,run_program,Result.andThen_ok,hmeth]
  exact this
 split at h
 ·rename_i e hu
  have hu' :=qan c.T hu w
  split at h <;> try exact h.elim
  exact key true hfn (by simp [receiverAt,hu',Place.get]) h
 ·rename_i d hn hu
  have hu' :=qan c.T hu w
  split at h <;> try exact h.elim
  refine key false hfn ?_ h
  cases d <;> first
   |exact absurd rfl (hn _)
   |simp [receiverAt,hu',Place.get]
 ·exact h.elim
def qmj (fv:AV) (args:List AV):Plan :=
 match fv with
 | .func fn first cap => match fn with
  | .func f => .fL (first ++ (args ++ cap)) fun l => .defr f l
  | _ => .fail
 | _ => .fail
theorem qto (c:OCtx P T F g B w H s ev ρ) {fo:Operand} {args:Array Operand} (h:EvF s (qmj (ev fo) (args.toList.map ev)) H.o r R W) :
  qay g B w H W ((do let d ← Deferred.ofValue (ρ fo) (args.map ρ);pure (.defer d):Sem Next).run P w) r :=by
 have hf :=c.rel fo
 have hlf :=c.live fo
 obtain ⟨ha,hla⟩ :=VRels.map c args.toList
 have ha':VRels g w (args.toList.map ev) (args.map ρ).toList :=by simpa using ha
 unfold qmj at h
 split at h <;> try exact h.elim
 rename_i fn first cap ef
 rw [ef] at hf hlf
 obtain ⟨vf,vc,e1,h1,h2⟩ :=hf
 split at h <;> try exact h.elim
 rename_i f
 obtain ⟨rfl,_,rfl⟩ :=h
 refine ⟨rfl,{ target :=.fn (.func f) vc,args :=vf ++ args.map ρ },by simp [e1,Deferred.ofValue],⟨vc,_,rfl,?_⟩,Lives.append hlf.1 (Lives.append hla hlf.2)⟩
 rw [Array.toList_append,Array.toList_append,List.append_assoc]
 exact h1.append (ha'.append h2)
def qpu (x:AV):Plan :=
 match x with
 | .iface t v => .panic (.iface t v)
 | _ => .fail
theorem qti (c:OCtx P T F g B w H s ev ρ) {x:Operand} (h:EvF s (qpu (ev x)) H.o r R W) :
  qay g B w H W ((do let v ← Instr.panic (ρ x);pure (.value v):Sem Next).run P w) r :=by
 have hx :=c.rel x
 have hl :=c.live x
 unfold qpu at h
 split at h <;> try exact h.elim
 rename_i t v ex
 rw [ex] at hx hl
 obtain ⟨rfl,_,rfl⟩ :=h
 have hx' :=hx
 obtain ⟨u,eu,hv⟩ :=hx
 refine ⟨rfl,ρ x,?_,hx',hl⟩
 simp [eu,Instr.panic]
def pNil (x:AV):Plan :=
 match x with
 | .ptr o off => .ret (.ptr o off)
 | .lptr xs off => .ret (.lptr xs off)
 | .gp a off => .ret (.gp a off)
 | .func fn f c => match fn with
  | .func n => .ret (.func (.func n) f c)
  | _ => .fail
 | .yld l => .ret (.yld l)
 | .iface t v => .ret (.iface t v)
 | _ => .fail
def qhx (T:Tr TypeInfo) (b:Builtin) (ts:List TypeId) (args:List AV):Plan :=
 match b with
 | .len => match ts with
  | [t] => match args with
   | [x] => pLen T t x
   | _ => .fail
  | _ => .fail
 | .append => match ts with
  | [t,tx] => match args with
   | [d,x] => qoe T t tx d x
   | _ => .fail
  | _ => .fail
 | .copy => match ts with
  | [t,_] => match args with
   | [d,x] => qzg T t d x
   | _ => .fail
  | _ => .fail
 | .max => qrj maxI args
 | .min => qrj minI args
 | .recover => .recover
 | _ => .fail
def pOpM (P:Program) (T:Tr TypeInfo) (F:Tr Func) (X:XT) (ev:Operand → AV) (o:Oper):Plan :=
 match o.op with
 | .move x => .ret (ev x)
 | .assign x => .ret (ev x)
 | .pick c a b => qrf (ev c) (ev a) (ev b)
 | .alloc e => qp1 T e
 | .box e x => pBox e (ev x)
 | .build t parts => qp0 T t (parts.toList.map fun p => (p.1,ev p.2))
 | .buildSlice t len parts => qep T t len (parts.toList.map fun p => (p.1,ev p.2))
 | .load t a => qmi T t (ev a)
 | .store t a x => qps T t (ev a) (ev x)
 | .nilCheck x => pNil (ev x)
 | .binOp op t x y _ => pBin X op t (qb4 x || qb4 y) (ev x) (ev y)
 | .unOp op _ x => pUn op (ev x)
 | .convert src dst x => match tyU T src with
  |some _ => qwk T dst (ev x)
  |none => .fail
 | .makeInterface t x => qhv T t (ev x)
 | .makeFunc fn f c => qn9 fn (f.toList.map ev) (c.toList.map ev)
 | .makeMap _ r => match r with
  |none => qk0
  |some _ => .fail
 | .makeSlice t l c => qfi T t (ev l) (ev c)
 | .slice t x lo hi mx => match mx with
  |none => qha T t (ev x) (lo.map ev) (hi.map ev)
  |some _ => .fail
 | .fieldAddr t x f => qfk T t (ev x) f
 | .field t x f => qpy T t (ev x) f
 | .indexAddr t x ix => qfj T t (ev x) (ev ix)
 | .index t x ix => qpx T t (ev x) (ev ix)
 | .lookup t x ix ok => qk1 P T t (ev x) (ev ix) ok
 | .mapUpdate t m k x => qgy P T t (ev m) (ev k) (ev x)
 | .insert t m k x => qgy P T t (ev m) (ev k) (ev x)
 | .range t x => qpt T t (ev x)
 | .next it isS => match isS with
  |true => qwg (ev it)
  |false => .fail
 | .typeAssert x _ asserted ok => qk5 T (ev x) asserted ok
 | .extract x i => qhw (ev x) i
 | .call c => match c.callee with
  | .builtin b => qhx T b c.argTypes.toList (c.args.toList.map ev)
  | .value f => qpz F X (ev f) (c.args.toList.map ev)
  | .invoke recv name => qk2 T F X (ev recv) name (c.args.toList.map ev)
 | .defer c => match c.callee with
  | .value f => qmj (ev f) (c.args.toList.map ev)
  | _ => .fail
 | .panic x => qpu (ev x)
 | _ => .fail
/- By the recursor itself, with closed minor premises: so the kernel carries it out at little cost. -/
def pOp (P:Program) (T:Tr TypeInfo) (F:Tr Func) (X:XT) (ev:Operand → AV) (o:Oper):Plan :=
 @Op.rec (fun _ => Program → Tr TypeInfo → Tr Func → (XT) → (Operand → AV) → Plan)
  (fun x _ _ _ _ ev => .ret (ev x))
  (fun x _ _ _ _ ev => .ret (ev x))
  (fun c a b _ _ _ _ ev => qrf (ev c) (ev a) (ev b))
  (fun e _ T _ _ _ => qp1 T e)
  (fun e x _ _ _ _ ev => pBox e (ev x))
  (fun t parts _ T _ _ ev => qp0 T t (parts.toList.map fun p => (p.1,ev p.2)))
  (fun t len parts _ T _ _ ev => qep T t len (parts.toList.map fun p => (p.1,ev p.2)))
  (fun t m k x P T _ _ ev => qgy P T t (ev m) (ev k) (ev x))
  (fun t a _ T _ _ ev => qmi T t (ev a))
  (fun t a x _ T _ _ ev => qps T t (ev a) (ev x))
  (fun _ _ _ _ _ _ => .fail)
  (fun _ _ _ _ _ _ => .fail)
  (fun x _ _ _ _ ev => pNil (ev x))
  (fun op t x y _ _ _ _ X ev => pBin X op t (qb4 x || qb4 y) (ev x) (ev y))
  (fun op _ x _ _ _ _ ev => pUn op (ev x))
  (fun src dst x _ T _ _ ev => match tyU T src with
   |some _ => qwk T dst (ev x)
   |none => .fail)
  (fun _ _ _ _ _ _ _ => .fail)
  (fun t x _ T _ _ ev => qhv T t (ev x))
  (fun fn f c _ _ _ _ ev => qn9 fn (f.toList.map ev) (c.toList.map ev))
  (fun _ r _ _ _ _ _ => match r with
   |none => qk0
   |some _ => .fail)
  (fun _ _ _ _ _ _ _ => .fail)
  (fun t l c _ T _ _ ev => qfi T t (ev l) (ev c))
  (fun t x lo hi mx _ T _ _ ev => match mx with
   |none => qha T t (ev x) (lo.map ev) (hi.map ev)
   |some _ => .fail)
  (fun t x f _ T _ _ ev => qfk T t (ev x) f)
  (fun t x f _ T _ _ ev => qpy T t (ev x) f)
  (fun t x ix _ T _ _ ev => qfj T t (ev x) (ev ix))
  (fun t x ix _ T _ _ ev => qpx T t (ev x) (ev ix))
  (fun t x ix ok P T _ _ ev => qk1 P T t (ev x) (ev ix) ok)
  (fun t m k x P T _ _ ev => qgy P T t (ev m) (ev k) (ev x))
  (fun _ _ _ _ _ _ _ _ => .fail)
  (fun _ _ _ _ _ _ _ _ _ => .fail)
  (fun t x _ T _ _ ev => qpt T t (ev x))
  (fun it isS _ _ _ _ ev => match isS with
   |true => qwg (ev it)
   |false => .fail)
  (fun _ _ _ _ _ _ => .fail)
  (fun x _ asserted ok _ T _ _ ev => qk5 T (ev x) asserted ok)
  (fun x i _ _ _ _ ev => qhw (ev x) i)
  (fun c _ T F X ev => match c.callee with
   | .builtin b => qhx T b c.argTypes.toList (c.args.toList.map ev)
   | .value f => qpz F X (ev f) (c.args.toList.map ev)
   | .invoke recv name => qk2 T F X (ev recv) name (c.args.toList.map ev))
  (fun _ _ _ _ _ _ => .fail)
  (fun c _ _ _ _ ev => match c.callee with
   | .value f => qmj (ev f) (c.args.toList.map ev)
   | _ => .fail)
  (fun x _ _ _ _ ev => qpu (ev x))
  (fun _ _ _ _ _ _ _ => .fail)
  (fun _ _ _ _ _ _ _ _ => .fail)
  (fun _ _ _ _ _ _ _ => .fail)
  o.op P T F X ev
theorem qpv (P:Program) (T:Tr TypeInfo) (F:Tr Func) (X:XT) (ev:Operand → AV) (o:Oper):pOp P T F X ev o = pOpM P T F X ev o :=by
 obtain ⟨dst,op,type,pos,after,guard⟩ :=o
 cases op <;> rfl
theorem arr1 {α:Type} {a:Array α} {x:α} (h:a.toList = [x]):a = #[x] :=by apply Array.ext';simpa using h
theorem arr2 {α:Type} {a:Array α} {x y:α} (h:a.toList = [x,y]):a = #[x,y] :=by apply Array.ext';simpa using h
theorem map1 {α β:Type} {f:α → β} {l:List α} {y:β} (h:l.map f = [y]):∃ x,l = [x] ∧ f x = y :=by
 cases l with
 |nil => simp at h
 |cons x xs => simp at h;exact ⟨x,by rw [h.2],h.1⟩
theorem map2 {α β:Type} {f:α → β} {l:List α} {y z:β} (h:l.map f = [y,z]):∃ x x',l = [x,x'] ∧ f x = y ∧ f x' = z :=by
 cases l with
 |nil => simp at h
 |cons x xs =>
  simp only [List.map_cons,List.cons.injEq] at h
  obtain ⟨x',e1,e2⟩ :=map1 h.2
  exact ⟨x,x',by rw [e1],h.1,e2⟩
theorem qod (c:OCtx P T F g B w H s ev ρ) {b:Builtin} {ts:Array TypeId} {ty:TypeId} {args:Array Operand} {cs:Array Bool} (h:EvF s (qhx T b ts.toList (args.toList.map ev)) H.o r R W) :
  qay g B w H W ((builtin b ts ty cs (args.map ρ)).run P w) r :=by
 unfold qhx at h
 split at h
 ·split at h <;> try exact h.elim
  rename_i t hts
  split at h <;> try exact h.elim
  rename_i x hargs
  obtain ⟨x0,e1,e2⟩ :=map1 hargs
  rw [arr1 hts,arr1 e1]
  subst e2
  have e3:(#[x0].map ρ) = #[ρ x0] :=by simp
  rw [e3]
  exact qzd c h
 ·split at h <;> try exact h.elim
  rename_i t tx hts
  split at h <;> try exact h.elim
  rename_i d x hargs
  obtain ⟨d0,x0,e1,e2,e3⟩ :=map2 hargs
  rw [arr2 hts,arr2 e1]
  subst e2;subst e3
  have e4:(#[d0,x0].map ρ) = #[ρ d0,ρ x0] :=by simp
  rw [e4]
  exact qrl c h
 ·split at h <;> try exact h.elim
  rename_i t tx hts
  split at h <;> try exact h.elim
  rename_i d x hargs
  obtain ⟨d0,x0,e1,e2,e3⟩ :=map2 hargs
  rw [arr2 hts,arr2 e1]
  subst e2;subst e3
  have e4:(#[d0,x0].map ρ) = #[ρ d0,ρ x0] :=by simp
  rw [e4]
  exact qwi c h
 ·exact qzc c h
 ·exact qzb c h
 ·obtain ⟨rfl,_,rfl⟩ :=h
  exact ⟨rfl,rfl⟩
 ·exact h.elim
theorem qf9 (c:OCtx P T F g B w H s ev ρ) {X:XT} (hX:XOK P X) {o:Oper} (h:EvF s (pOp P T F X ev o) H.o r R W):qay g B w H W ((execOp ρ o).run P w) r :=by
  rw [qpv] at h
  unfold pOpM at h
  unfold execOp
  split at h
  · rename_i x ho
    simp only [ho]
    obtain ⟨rfl,rfl⟩ :=qaq h
    exact qay.pure c.h rfl (c.rel x) (c.live x)
  · rename_i x ho
    simp only [ho]
    obtain ⟨rfl,rfl⟩ :=qaq h
    exact qay.pure c.h rfl (c.rel x) (c.live x)
  · rename_i x a b ho
    simp only [ho]
    exact qwe c h
  · rename_i e ho
    simp only [ho]
    exact qtr c h
  · rename_i e x ho
    simp only [ho]
    exact qzh c h
  · rename_i t parts ho
    simp only [ho]
    exact qtq c h
  · rename_i t len parts ho
    simp only [ho]
    exact qje c h
  · rename_i t a ho
    simp only [ho]
    exact qwh c h rfl
  · rename_i t a x ho
    simp only [ho]
    exact qtd c h
  · rename_i x ho
    simp only [ho]
    have hx :=c.rel x
    have hl :=c.live x
    unfold pNil at h
    split at h <;> try exact h.elim
    all_goals first
      | (rename_i ex
         rw [ex] at hx hl
         have hx' :=hx
         obtain ⟨rfl,rfl⟩ :=qaq h
         refine qay.pure c.h (u :=ρ x) ?_ hx' hl
         simp only [VRel] at hx
         first
           | (rw [hx];rfl)
           | (obtain ⟨_,_,e,_⟩ :=hx;rw [e];rfl)
           | (obtain ⟨_,e,_⟩ :=hx;rw [e];rfl))
      | (rename_i ex
         rw [ex] at hx hl
         split at h <;> try exact h.elim
         have hx' :=hx
         obtain ⟨rfl,rfl⟩ :=qaq h
         refine qay.pure c.h (u :=ρ x) ?_ hx' hl
         simp only [VRel] at hx
         obtain ⟨_,_,e,_⟩ :=hx
         rw [e];rfl)
  · rename_i op t x y yt ho
    simp only [ho]
    exact qzi c hX.2 h
  · rename_i op t x ho
    simp only [ho]
    exact q05 c h
  · rename_i src dst x ho
    simp only [ho]
    split at h <;> try exact h.elim
    rename_i d hd
    exact qwj c ⟨d,hd⟩ h
  · rename_i t x ho
    simp only [ho]
    exact qn8 c h
  · rename_i fn f cp ho
    simp only [ho]
    exact qrg c h
  · rename_i t rr ho
    simp only [ho]
    split at h <;> try exact h.elim
    exact qoa c h
  · rename_i t l cp ho
    simp only [ho]
    exact qkz c h
  · rename_i t x lo hi mx ho
    simp only [ho]
    split at h <;> try exact h.elim
    exact qte c h
  · rename_i t x f ho
    simp only [ho]
    exact qk4 c h
  · rename_i t x f ho
    simp only [ho]
    exact qtn c h
  · rename_i t x ix ho
    simp only [ho]
    exact qk3 c h
  · rename_i t x ix ho
    simp only [ho]
    exact qtm c h
  · rename_i t x ix ok ho
    simp only [ho]
    exact qrh c h
  · rename_i t m k x ho
    simp only [ho]
    exact qjq c h
  · rename_i t m k x ho
    simp only [ho]
    exact qjq c h
  · rename_i t x ho
    simp only [ho]
    exact qth c h
  · rename_i it isS ho
    simp only [ho]
    split at h <;> try exact h.elim
    exact qwf c h
  · rename_i x xt asserted ok ho
    simp only [ho]
    exact qrk c h
  · rename_i x i ho
    simp only [ho]
    exact qob c h
  · rename_i cl ho
    simp only [ho,resolve]
    split at h
    · rename_i b hb
      simp only [hb,Sem.run_bind,Sem.run_pure,Result.andThen_ok,invoke]
      exact qod c h
    · rename_i f hb
      simp only [hb]
      exact qtp c hX h
    · rename_i recv name hb
      simp only [hb,Sem.run_bind,Sem.run_pure,Result.andThen_ok,invoke]
      have e0:(#[ρ recv] ++ cl.args.map ρ)[0]? = some (ρ recv) :=by
        rw [Array.getElem?_append_left (by show 0 < 1;omega)]
        rfl
      simp only [e0]
      refine qri c hX (args :=cl.args.toList) ?_ h
      simp
      rw [List.take_of_length_le (by simp)]
  · rename_i cl ho
    simp only [ho,resolve]
    split at h <;> try exact h.elim
    rename_i f hb
    simp only [hb]
    exact qto c h
  · rename_i x ho
    simp only [ho]
    exact qti c h
  · exact h.elim
end
end
end Go.Abs

/-! Frames, and the rules of control. -/
namespace Go.Abs
open Go
noncomputable section
inductive ADf where
 |call (f:FuncId) (args:List AV)
 |mark (o:Nat)
inductive APm where
 |no
 |ret
 |pan (l:List (AV × Bool))
structure St where
 tm:Tr AV
 df:List ADf
 pm:APm
 rd:Bool
 H:AH
inductive AEx where
 |normal
 |exit (id:Nat)
 |ret
 |panic (l:List (AV × Bool))
def qa5 (g:Gh) (w:World) (L:Nat → Prop):List (AV × Bool) → List PanicEntry → Prop
 | [],es => es = []
 |(v,b) :: l,es => ∃ e es',es = e :: es' ∧ VRel g w v e.v ∧ Live L v ∧ e.recovered = b ∧ e.goexit = false ∧ qa5 g w L l es'
def qhm (g:Gh) (w:World) (L:Nat → Prop):List ADf → List Deferred → Prop
 | [],ds => ds = []
 | .call f args :: l,ds => ∃ d ds',ds = d :: ds' ∧ DRel g w f args d ∧ Lives L args ∧ qhm g w L l ds'
 | .mark o :: l,ds => ∃ ds',ds = { target :=.collected (g.ob o),args :=#[] } :: ds' ∧ L o ∧ qhm g w L l ds'
def qe2 (g:Gh) (w:World) (L:Nat → Prop) (pm:APm) (fr:Frame) (cs:List Frame):Prop :=
 match pm with
 | .no => True
 | .ret => fr.kind = .deferred ∧ fr.roundOf = none ∧ ∃ c0 rest,cs = c0 :: rest ∧ c0.mode = .returning
 | .pan l => fr.kind = .deferred ∧ fr.roundOf = none ∧ ∃ c0 rest chain,cs = c0 :: rest ∧ c0.mode = .panicking chain ∧ qa5 g w L l chain
def CsOk (pm:APm) (cs cs':List Frame):Prop :=
 match pm with
 | .pan _ => ∃ c0 rest m,cs = c0 :: rest ∧ cs' = { c0 with mode :=m } :: rest
 | _ => cs' = cs
structure FrRel (g:Gh) (B:Nat) (w:World) (σ:St) (fr:Frame) (cs:List Frame):Prop where
 h:HRel g B w σ.H
 tm:FRel g w σ.H.L σ.tm fr.tmps
 df:qhm g w σ.H.L σ.df fr.defers
 pm:qe2 g w σ.H.L σ.pm fr cs
 rd:σ.rd = false → fr.roundOf = none
structure SameFr (fr fr':Frame):Prop where
 fn:fr'.fn = fr.fn
 kind:fr'.kind = fr.kind
 round:fr'.roundOf = fr.roundOf
theorem SameFr.trans {a b c:Frame} (h:SameFr a b) (k:SameFr b c):SameFr a c :=⟨k.fn.trans h.fn,k.kind.trans h.kind,k.round.trans h.round⟩
def tgt:AEx → List Item → Option (List Item)
 | .normal,k => some k
 | .exit id,k => exitTo id k
 | _,_ => some []
def ExOk (g:Gh) (w:World) (L:Nat → Prop) (e:AEx) (fr:Frame) (k:List Item):Prop :=
 match e with
 | .normal => fr.mode = .run ∧ fr.todo = k
 | .exit _ => fr.mode = .run ∧ fr.todo = k
 | .ret => fr.mode = .returning
 | .panic l => ∃ chain,fr.mode = .panicking chain ∧ qa5 g w L l chain
def SemT (P:Program) (B:Nat) (its:List Item) (σ:St) (e:AEx) (σ':St):Prop :=
 ∀ g fr cs w k,FrRel g B w σ fr cs → fr.mode = .run → fr.todo = its ++ k → (e = .ret → fr.roundOf = none) → ∀ k',tgt e k = some k' →
  ∃ g' fr' cs' w',FrRel g' B w' σ' fr' cs' ∧ Out g B w σ.H g' w' σ'.H ∧ SameFr fr fr' ∧ CsOk σ.pm cs cs' ∧ ((∀ l,σ.pm ≠ .pan l) → ∀ l,σ'.pm ≠ .pan l) ∧ ExOk g' w' σ'.H.L e fr' k' ∧
   Steps P (lone fr cs w) (lone fr' cs' w')
def Sem (P:Program) (B:Nat) (c:Code) (σ:St) (e:AEx) (σ':St):Prop :=SemT P B [.code c] σ e σ'
theorem CsOk.refl (pm:APm) (cs:List Frame) (fr:Frame) {g:Gh} {w:World} {L:Nat → Prop} (h:qe2 g w L pm fr cs):CsOk pm cs cs :=by
 cases pm with
 |pan l =>
  obtain ⟨_,_,c0,rest,chain,e,_,_⟩ :=h
  exact ⟨c0,rest,c0.mode,e,e⟩
 | _ => rfl
theorem CsOk.trans {pm pm':APm} {a b c:List Frame} (h:CsOk pm a b) (k:CsOk pm' b c) (hp:(∀ l,pm ≠ .pan l) → ∀ l,pm' ≠ .pan l):CsOk pm a c :=by
 cases pm with
 |pan l =>
  obtain ⟨c0,rest,m,e1,e2⟩ :=h
  cases pm' with
  |pan l' =>
   obtain ⟨c1,rest',m',e3,e4⟩ :=k
   rw [e2] at e3
   injection e3 with e5 e6
   subst e5;subst e6
   exact ⟨c0,rest,m',e1,e4⟩
  | _ =>
   have k:c = b :=k
   exact ⟨c0,rest,m,e1,k.trans e2⟩
 | _ =>
  have h:b = a :=h
  cases pm' with
  |pan l' => exact absurd rfl (hp (by intro l;simp) l')
  | _ =>
   have k:c = b :=k
   exact k.trans h
section
variable {P:Program} {B:Nat} {σ σ1 σ':St} {e:AEx}
theorem qa6 {fr fr':Frame} {cs cs':List Frame} {w w':World}
  (h:(stepG P true { frame :=fr,callers :=cs,status :=.running,dying :=none } w).bare = .go { frame :=fr',callers :=cs',status :=.running,dying :=none } w') :
  Steps P (lone fr cs w) (lone fr' cs' w') :=.one (step_lone_go h)
theorem FrRel.todo {g:Gh} {w:World} {fr:Frame} {cs:List Frame} (h:FrRel g B w σ fr cs) (todo:List Item):FrRel g B w σ { fr with todo :=todo } cs :=
 ⟨h.h,h.tm,h.df,by
  have :=h.pm
  unfold qe2 at *
  split at this <;> simp_all,h.rd⟩
theorem FrRel.mode {g:Gh} {w:World} {fr:Frame} {cs:List Frame} (h:FrRel g B w σ fr cs) (m:FrameMode):FrRel g B w σ { fr with mode :=m } cs :=
 ⟨h.h,h.tm,h.df,by
  have :=h.pm
  unfold qe2 at *
  split at this <;> simp_all,h.rd⟩
theorem SemT.ahead {its its':List Item} (h:SemT P B its' σ e σ') (ht:∀ k,tgt e k = tgt e k)
  (hs:∀ g fr cs w k,FrRel g B w σ fr cs → fr.mode = .run → fr.todo = its ++ k → Steps P (lone fr cs w) (lone { fr with todo :=its' ++ k } cs w)):SemT P B its σ e σ' :=by
 intro g fr cs w k hr hm htd hro k' hk
 have _ :=ht k
 obtain ⟨g',fr',cs',w',h1,h2,h3,h4,h5,h6,h7⟩ :=h g { fr with todo :=its' ++ k } cs w k (hr.todo _) hm rfl hro k' hk
 exact ⟨g',fr',cs',w',h1,h2,⟨h3.fn,h3.kind,h3.round⟩,h4,h5,h6,(hs g fr cs w k hr hm htd).trans h7⟩
theorem SemT.idle {its:List Item} (hs:∀ g fr cs w k,FrRel g B w σ fr cs → fr.mode = .run → fr.todo = its ++ k → Steps P (lone fr cs w) (lone { fr with todo :=k } cs w)):SemT P B its σ .normal σ :=by
 intro g fr cs w k hr hm htd hro k' hk
 simp only [tgt,Option.some.injEq] at hk
 subst hk
 exact ⟨g,{ fr with todo :=k },cs,w,hr.todo _,Out.refl hr.h,⟨rfl,rfl,rfl⟩,CsOk.refl _ _ _ hr.pm,fun h => h,⟨hm,rfl⟩,hs g fr cs w k hr hm htd⟩
theorem Sem.skip:Sem P B .skip σ .normal σ :=
 SemT.idle fun _ fr cs w k _ hm ht => qa6 (by
  simp only [List.cons_append,List.nil_append] at ht
  simp [stepG,stepG.exec,hm,ht])
theorem Sem.label {l:Nat}:Sem P B (.label l) σ .normal σ :=
 SemT.idle fun _ fr cs w k _ hm ht => qa6 (by
  simp only [List.cons_append,List.nil_append] at ht
  simp [stepG,stepG.exec,hm,ht])
theorem SemT.append {a b:List Item} (h:SemT P B a σ .normal σ1) (k:SemT P B b σ1 e σ'):SemT P B (a ++ b) σ e σ' :=by
 intro g fr cs w kk hr hm ht hro k' hk
 obtain ⟨g1,fr1,cs1,w1,h1,h2,h3,h4,h5,h6,h7⟩ :=h g fr cs w (b ++ kk) hr hm (by rw [ht,List.append_assoc]) (fun e => by cases e) (b ++ kk) rfl
 obtain ⟨g2,fr2,cs2,w2,f1,f2,f3,f4,f5,f6,f7⟩ :=k g1 fr1 cs1 w1 kk h1 h6.1 h6.2 (fun e => h3.round.trans (hro e)) k' hk
 exact ⟨g2,fr2,cs2,w2,f1,h2.trans f2,h3.trans f3,h4.trans f4 h5,fun hp => f5 (h5 hp),f6,h7.trans f7⟩
def qmh (e:AEx) (it:Item):Prop :=e ≠ .normal ∧ ∀ k,tgt e (it :: k) = tgt e k
theorem SemT.pass {a:List Item} {it:Item} (h:SemT P B a σ e σ') (hp:qmh e it):SemT P B (a ++ [it]) σ e σ' :=by
 intro g fr cs w k hr hm ht hro k' hk
 obtain ⟨g1,fr1,cs1,w1,h1,h2,h3,h4,h5,h6,h7⟩ :=h g fr cs w (it :: k) hr hm (by rw [ht,List.append_assoc];rfl) hro k' (by rw [hp.2];exact hk)
 exact ⟨g1,fr1,cs1,w1,h1,h2,h3,h4,h5,h6,h7⟩
theorem qn6 (c:Code) (he:e ≠ .normal):qmh e (.code c) :=⟨he,fun k => by cases e <;> first | exact absurd rfl he | rfl⟩
theorem qkx (c:Code) (he:e ≠ .normal):qmh e (.inLoop c) :=⟨he,fun k => by cases e <;> first | exact absurd rfl he | rfl⟩
theorem qjc (c:Code) (he:e ≠ .normal):qmh e (.inScope c) :=⟨he,fun k => by cases e <;> first | exact absurd rfl he | rfl⟩
theorem qjd (id:Nat) (he:e ≠ .normal) (hid:e ≠ .exit id):qmh e (.inBlock id) :=
  ⟨he,fun k => by
    cases e <;> first
      | exact absurd rfl he
      | rfl
      | (rename_i id'
         simp only [tgt,exitTo]
         rw [if_neg]
         intro e
         exact hid (by rw [beq_iff_eq] at e;rw [e]))⟩
theorem Sem.seq {x y:Code} (h:Sem P B x σ .normal σ1) (k:Sem P B y σ1 e σ'):Sem P B (.seq x y) σ e σ' :=
 SemT.ahead (its' :=[.code x] ++ [.code y]) (SemT.append (a :=[.code x]) h k) (fun _ => rfl) fun _ fr cs w k _ hm ht => qa6 (by
  simp only [List.cons_append,List.nil_append] at ht
  simp [stepG,stepG.exec,hm,ht])
theorem Sem.seq_exit {x y:Code} (h:Sem P B x σ e σ') (he:e ≠ .normal):Sem P B (.seq x y) σ e σ' :=
 SemT.ahead (its' :=[.code x] ++ [.code y]) (SemT.pass (a :=[.code x]) h (qn6 y he)) (fun _ => rfl) fun _ fr cs w k _ hm ht => qa6 (by
  simp only [List.cons_append,List.nil_append] at ht
  simp [stepG,stepG.exec,hm,ht])
theorem Sem.cond {x y:Code} {c:Operand} {b:Bool} (hc:aev σ.tm c = .bool b) (h:Sem P B (if b then x else y) σ e σ'):Sem P B (.cond c x y) σ e σ' :=
 SemT.ahead (its' :=[.code (if b then x else y)]) h (fun _ => rfl) fun g fr cs w k hr hm ht => qa6 (by
  have hv :=hr.tm.ev (a :={ tmps :=fr.tmps,defers :=fr.defers }) c
  rw [hc] at hv
  simp only [VRel] at hv
  have hv':fr.eval c = .bool b :=by
   rw [← hv]
   cases c <;> rfl
  simp only [List.cons_append,List.nil_append] at ht
  simp [stepG,stepG.exec,hm,ht,hv'])
theorem Sem.block_normal {id:Nat} {c:Code} (h:Sem P B c σ .normal σ'):Sem P B (.block id c) σ .normal σ' :=
 SemT.ahead (its' :=[.code c] ++ [.inBlock id]) (SemT.append (a :=[.code c]) h (SemT.idle fun _ fr cs w k _ hm ht => qa6 (by
  simp only [List.cons_append,List.nil_append] at ht
  simp [stepG,stepG.exec,hm,ht]))) (fun _ => rfl) fun _ fr cs w k _ hm ht => qa6 (by
  simp only [List.cons_append,List.nil_append] at ht
  simp [stepG,stepG.exec,hm,ht])
theorem Sem.block_pass {id:Nat} {c:Code} (h:Sem P B c σ e σ') (he:e ≠ .normal) (hid:e ≠ .exit id):Sem P B (.block id c) σ e σ' :=
 SemT.ahead (its' :=[.code c] ++ [.inBlock id]) (SemT.pass (a :=[.code c]) h (qjd id he hid)) (fun _ => rfl) fun _ fr cs w k _ hm ht => qa6 (by
  simp only [List.cons_append,List.nil_append] at ht
  simp [stepG,stepG.exec,hm,ht])
theorem Sem.block_exit {id:Nat} {c:Code} (h:Sem P B c σ (.exit id) σ'):Sem P B (.block id c) σ .normal σ' :=by
 refine SemT.ahead (its' :=[.code c] ++ [.inBlock id]) ?_ (fun _ => rfl) fun _ fr cs w k _ hm ht => qa6 (by
  simp only [List.cons_append,List.nil_append] at ht
  simp [stepG,stepG.exec,hm,ht])
 intro g fr cs w k hr hm ht hro k' hk
 obtain ⟨g1,fr1,cs1,w1,h1,h2,h3,h4,h5,h6,h7⟩ :=h g fr cs w (.inBlock id :: k) hr hm (by rw [ht,List.append_assoc];rfl) (fun e => by cases e) k' (by
  simp only [tgt,Option.some.injEq] at hk
  subst hk
  simp [tgt,exitTo])
 exact ⟨g1,fr1,cs1,w1,h1,h2,h3,h4,h5,h6,h7⟩
theorem Sem.scope_normal {c:Code} (h:Sem P B c σ .normal σ'):Sem P B (.scope c) σ .normal σ' :=
 SemT.ahead (its' :=[.code c] ++ [.inScope c]) (SemT.append (a :=[.code c]) h (SemT.idle fun _ fr cs w k _ hm ht => qa6 (by
  simp only [List.cons_append,List.nil_append] at ht
  simp [stepG,stepG.exec,hm,ht]))) (fun _ => rfl) fun _ fr cs w k _ hm ht => qa6 (by
  simp only [List.cons_append,List.nil_append] at ht
  simp [stepG,stepG.exec,hm,ht])
theorem Sem.scope_pass {c:Code} (h:Sem P B c σ e σ') (he:e ≠ .normal):Sem P B (.scope c) σ e σ' :=
 SemT.ahead (its' :=[.code c] ++ [.inScope c]) (SemT.pass (a :=[.code c]) h (qjc c he)) (fun _ => rfl) fun _ fr cs w k _ hm ht => qa6 (by
  simp only [List.cons_append,List.nil_append] at ht
  simp [stepG,stepG.exec,hm,ht])
def SemL (P:Program) (B:Nat) (c:Code) (σ:St) (e:AEx) (σ':St):Prop :=SemT P B [.code c,.inLoop c] σ e σ'
theorem SemL.next {c:Code} (h:Sem P B c σ .normal σ1) (k:SemL P B c σ1 e σ'):SemL P B c σ e σ' :=
 SemT.append (a :=[.code c]) (b :=[.inLoop c]) h (SemT.ahead (its' :=[.code c,.inLoop c]) k (fun _ => rfl) fun _ fr cs w k _ hm ht => qa6 (by
  simp only [List.cons_append,List.nil_append] at ht
  simp [stepG,stepG.exec,hm,ht]))
theorem SemL.stop {c:Code} (h:Sem P B c σ e σ') (he:e ≠ .normal):SemL P B c σ e σ' :=SemT.pass (a :=[.code c]) h (qkx c he)
theorem Sem.loop {c:Code} (h:SemL P B c σ e σ'):Sem P B (.loop c) σ e σ' :=
 SemT.ahead (its' :=[.code c,.inLoop c]) h (fun _ => rfl) fun _ fr cs w k _ hm ht => qa6 (by
  simp only [List.cons_append,List.nil_append] at ht
  simp [stepG,stepG.exec,hm,ht])
theorem Sem.exit {id:Nat}:Sem P B (.exit id) σ (.exit id) σ :=by
 intro g fr cs w k hr hm ht hro k' hk
 simp only [tgt] at hk
 refine ⟨g,{ fr with todo :=k' },cs,w,hr.todo _,Out.refl hr.h,⟨rfl,rfl,rfl⟩,CsOk.refl _ _ _ hr.pm,fun h => h,⟨hm,rfl⟩,qa6 ?_⟩
 simp only [List.cons_append,List.nil_append] at ht
 simp [stepG,stepG.exec,hm,ht,hk]
theorem Sem.ret:Sem P B .ret σ .ret σ :=by
 intro g fr cs w k hr hm ht hro k' hk
 refine ⟨g,{ fr with mode :=.returning },cs,w,hr.mode _,Out.refl hr.h,⟨rfl,rfl,rfl⟩,CsOk.refl _ _ _ hr.pm,fun h => h,rfl,qa6 ?_⟩
 simp only [List.cons_append,List.nil_append] at ht
 simp [stepG,stepG.exec,hm,ht,hro rfl]
end
end
end Go.Abs

/-! Operations within a frame; regions in order. -/
namespace Go.Abs
open Go
noncomputable section
inductive AEnd where
 |ret (v:AV)
 |panic (l:List (AV × Bool))
def q2n (P:Program) (g:Gh) (w:World) (L:Nat → Prop) (e:AEnd) (fr:Frame):Prop :=
 match e with
 | .ret v => ∃ u,fr.leaving P w (.returned u) ∧ VRel g w v u ∧ Live L v
 | .panic l => ∃ chain,fr.leaving P w (.panicked chain) ∧ qa5 g w L l chain
def CSem (P:Program) (B:Nat) (f:FuncId) (args:List AV) (H:AH) (e:AEnd) (H':AH):Prop :=
 ∀ g vs cs w,HRel g B w H → VRels g w args vs.toList → Lives H.L args →
  ∃ g' fr' w',Out g B w H g' w' H' ∧ Steps P (lone (Frame.enter P f vs .normal) cs w) (lone fr' cs w') ∧ fr'.fn = f ∧ q2n P g' w' H'.L e fr'
section
variable {P:Program} {B:Nat} {σ σ1 σ':St} {e:AEx} {T:Tr TypeInfo} {F:Tr Func} {X:XT}
theorem qa5.ext {L L':Nat → Prop} {g g':Gh} {w w':World} (hx:Ext L g w g' w') (hl:∀ i,L i → L' i):∀ {l:List (AV × Bool)} {es:List PanicEntry},qa5 g w L l es → qa5 g' w' L' l es
 | [],_,h => h
 |(_,_) :: _,_,h => by
  obtain ⟨e,es',e1,h1,h2,h3,h4,h5⟩ :=h
  exact ⟨e,es',e1,h1.ext hx _ _ h2,h2.mono hl,h3,h4,qa5.ext hx hl h5⟩
theorem qhm.ext {L L':Nat → Prop} {g g':Gh} {w w':World} (hx:Ext L g w g' w') (hl:∀ i,L i → L' i):∀ {l:List ADf} {ds:List Deferred},qhm g w L l ds → qhm g' w' L' l ds
 | [],_,h => h
 | .call f args :: _,_,h => by
  obtain ⟨d,ds',e1,⟨cap,as,e2,h1⟩,h2,h3⟩ :=h
  exact ⟨d,ds',e1,⟨cap,as,e2,h1.ext hx _ _ h2⟩,h2.mono hl,qhm.ext hx hl h3⟩
 | .mark o :: _,_,h => by
  obtain ⟨ds',e1,h1,h2⟩ :=h
  exact ⟨ds',by rw [hx.ob o h1];exact e1,hl o h1,qhm.ext hx hl h2⟩
theorem qe2.ext {L L':Nat → Prop} {g g':Gh} {w w':World} (hx:Ext L g w g' w') (hl:∀ i,L i → L' i) {pm:APm} {fr:Frame} {cs:List Frame} (h:qe2 g w L pm fr cs):qe2 g' w' L' pm fr cs :=by
 cases pm with
 |no => trivial
 |ret => exact h
 |pan l =>
  obtain ⟨h1,h2,c0,rest,chain,h3,h4,h5⟩ :=h
  exact ⟨h1,h2,c0,rest,chain,h3,h4,h5.ext hx hl⟩
theorem FRel.ext {L L':Nat → Prop} {g g':Gh} {w w':World} (hx:Ext L g w g' w') (hl:∀ i,L i → L' i) {tm:Tr AV} {arr:Array Value} (h:FRel g w L tm arr):FRel g' w' L' tm arr :=
 ⟨fun t a ht => ⟨(h.rel t a ht).1,(h.rel t a ht).2.ext hx _ _ (h.live t a ht)⟩,fun t a ht => (h.live t a ht).mono hl⟩
theorem FrRel.out {g g':Gh} {w w':World} {fr:Frame} {cs:List Frame} {H':AH} (h:FrRel g B w σ fr cs) (ho:Out g B w σ.H g' w' H'):FrRel g' B w' { σ with H :=H' } fr cs :=
 ⟨ho.rel,h.tm.ext ho.ext ho.L,h.df.ext ho.ext ho.L,h.pm.ext ho.ext ho.L,h.rd⟩
theorem FRel.set {L:Nat → Prop} {g:Gh} {w:World} {tm tm':Tr AV} {arr:Array Value} (h:FRel g w L tm arr) {d:Nat} {v:AV} {u:Value} (hd:∃ y,tm.get d = some y)
  (ht:∀ j,tm'.get j = if j = d then some v else tm.get j) (hv:VRel g w v u) (hl:Live L v):FRel g w L tm' (arr.setIfInBounds d u) :=by
 obtain ⟨y,hy⟩ :=hd
 have hlt :=(h.rel d y hy).1
 constructor
 ·intro t a ha
  rw [ht] at ha
  by_cases e:t = d
  ·subst e
   rw [if_pos rfl] at ha
   cases ha
   refine ⟨by simpa using hlt,?_⟩
   rw [Array.getD_eq_getD_getElem?,Array.getElem?_setIfInBounds_self_of_lt hlt]
   exact hv
  ·rw [if_neg e] at ha
   obtain ⟨h1,h2⟩ :=h.rel t a ha
   refine ⟨by simpa using h1,?_⟩
   rw [Array.getD_eq_getD_getElem?,Array.getElem?_setIfInBounds_ne (by omega),← Array.getD_eq_getD_getElem?]
   exact h2
 ·intro t a ha
  rw [ht] at ha
  by_cases e:t = d
  ·rw [if_pos e] at ha;cases ha;exact hl
  ·rw [if_neg e] at ha;exact h.live t a ha
def SetD (tm:Tr AV) (dst:Option Tmp) (v:AV) (tm':Tr AV):Prop :=
 match dst with
 |none => tm' = tm
 |some d => (∃ y,tm.get d = some y) ∧ ∀ j,tm'.get j = if j = d then some v else tm.get j
theorem qa3 {fr:Frame} {ops:Array Oper} {i:Nat} {rest:List Nat} {k:List Item} (ht:fr.todo = .inRegion ops (i :: rest) :: k) {o:Oper} (ho:ops[i]? = some o) (v:Value) :
  fr.finish v = { fr with tmps :=(match o.dst with | some d => fr.tmps.setIfInBounds d v | none => fr.tmps),todo :=.inRegion ops rest :: k } :=by
 unfold Frame.finish
 rw [ht]
 simp only [ho,Option.bind_some]
 cases o.dst <;> rfl
theorem FrRel.finish {g:Gh} {w:World} {fr:Frame} {cs:List Frame} (h:FrRel g B w σ fr cs) {ops:Array Oper} {i:Nat} {rest:List Nat} {k:List Item}
  (ht:fr.todo = .inRegion ops (i :: rest) :: k) {o:Oper} (ho:ops[i]? = some o) {v:AV} {u:Value} (hv:VRel g w v u) (hl:Live σ.H.L v) {tm':Tr AV} (hs:SetD σ.tm o.dst v tm') :
  FrRel g B w { σ with tm :=tm' } (fr.finish u) cs :=by
 rw [qa3 ht ho]
 refine ⟨h.h,?_,h.df,?_,h.rd⟩
 ·cases hd:o.dst with
  |none =>
   rw [hd] at hs
   have hs:tm' = σ.tm :=hs
   rw [hs];exact h.tm
  |some d =>
   rw [hd] at hs
   exact h.tm.set hs.1 hs.2 hv hl
 ·have :=h.pm
  unfold qe2 at *
  split at this <;> simp_all
def OpS (P:Program) (B:Nat) (ops:Array Oper) (i:Nat) (σ:St) (e:AEx) (σ':St):Prop :=
 ∀ g fr cs w rest k,FrRel g B w σ fr cs → fr.mode = .run → fr.todo = .inRegion ops (i :: rest) :: k →
  ∃ g' fr' cs' w',FrRel g' B w' σ' fr' cs' ∧ Out g B w σ.H g' w' σ'.H ∧ SameFr fr fr' ∧ CsOk σ.pm cs cs' ∧ ((∀ l,σ.pm ≠ .pan l) → ∀ l,σ'.pm ≠ .pan l) ∧
   (match e with
    | .normal => fr'.mode = .run ∧ fr'.todo = .inRegion ops rest :: k
    | .panic l => ∃ chain,fr'.mode = .panicking chain ∧ qa5 g' w' σ'.H.L l chain
    | _ => False) ∧ Steps P (lone fr cs w) (lone fr' cs' w')
def qqf (ops:Array Oper) (tm:Tr AV) (o:Oper):Option Bool :=
 match o.guard with
 |none => some true
 |some (j,want) => match ops[j]? with
  |some oj => match oj.dst with
   |some d => match tm.get d with
    |some (.bool b) => some (b == want)
    |some (.tup _) => some false
    | _ => none
   |none => none
  |none => none
def q1e (want:Bool) (x:AV):Option Bool :=
 match x with
 | .bool b => some (@Bool.rec (fun _ => Bool) (@Bool.rec (fun _ => Bool) true false want) want b)
 | .tup _ => some false
 | _ => none
def qx6 (p:Nat × Bool) (ops:Array Oper) (tm:Tr AV):Option Bool :=
 @Option.rec Oper (fun _ => Option Bool) none (fun oj => @Option.rec Tmp (fun _ => Option Bool) none (fun d => @Option.rec AV (fun _ => Option Bool) none (fun x => q1e p.2 x) (tm.get d)) oj.dst) (ops.toList[p.1]?)
def qbi (ops:Array Oper) (tm:Tr AV) (o:Oper):Option Bool :=
 @Option.rec (Nat × Bool) (fun _ => Option Bool) (some true) (fun p => qx6 p ops tm) o.guard
theorem qiw (ops:Array Oper) (tm:Tr AV) (o:Oper):qbi ops tm o = qqf ops tm o :=by
 unfold qbi qqf
 cases o.guard with
 |none => rfl
 |some p =>
  obtain ⟨j,want⟩ :=p
  simp only [qx6,Array.getElem?_toList]
  cases ops[j]? with
  |none => rfl
  |some oj =>
   simp only
   cases oj.dst with
   |none => rfl
   |some d =>
    simp only
    cases tm.get d with
    |none => rfl
    |some x =>
     simp only
     cases x <;> first
      |rfl
      |(rename_i b;cases b <;> cases want <;> rfl)
theorem qcn {g:Gh} {w:World} {L:Nat → Prop} {ops:Array Oper} {tm:Tr AV} {arr:Array Value} (h:FRel g w L tm arr) {o:Oper} {b:Bool} (hg:qbi ops tm o = some b) :
  Region.wanted o (yielded ops arr) = b :=by
 rw [qiw] at hg
 unfold qqf at hg
 unfold Region.wanted
 split at hg
 ·rename_i e
  simp only [Option.some.injEq] at hg
  rw [e,hg]
 ·rename_i j want e
  rw [e]
  split at hg <;> try cases hg
  rename_i oj hoj
  split at hg <;> try cases hg
  rename_i d hd
  split at hg
  ·rename_i b' hb
   cases hg
   obtain ⟨h1,h2⟩ :=h.rel d _ hb
   simp only [VRel] at h2
   have h3:arr[d]? = some (.bool b') :=by
    rw [Array.getD_eq_getD_getElem?,Array.getElem?_eq_getElem h1] at h2
    simp only [Option.getD_some] at h2
    rw [Array.getElem?_eq_getElem h1,h2]
   simp [yielded,hoj,hd,h3]
  ·rename_i l hb
   cases hg
   obtain ⟨h1,h2⟩ :=h.rel d _ hb
   obtain ⟨vs,h2,_⟩ :=h2
   have h3:arr[d]? = some (.tuple vs) :=by
    rw [Array.getD_eq_getD_getElem?,Array.getElem?_eq_getElem h1] at h2
    simp only [Option.getD_some] at h2
    rw [Array.getElem?_eq_getElem h1,h2]
   simp [yielded,hoj,hd,h3]
  ·cases hg
theorem qq3 {fr:Frame} {cs:List Frame} {w:World} {ops:Array Oper} {i:Nat} {rest:List Nat} {k:List Item} {o:Oper} (hm:fr.mode = .run) (ht:fr.todo = .inRegion ops (i :: rest) :: k)
  (ho:ops[i]? = some o) (hw:Region.wanted o (yielded ops fr.tmps) = false):Steps P (lone fr cs w) (lone (fr.finish undef) cs w) :=
 qa6 (by simp [stepG,stepG.exec,hm,ht,ho,hw])
theorem qce {fr:Frame} {cs:List Frame} {w:World} {ops:Array Oper} {i:Nat} {rest:List Nat} {k:List Item} {o:Oper} (hm:fr.mode = .run) (ht:fr.todo = .inRegion ops (i :: rest) :: k)
  (ho:ops[i]? = some o) (hw:Region.wanted o (yielded ops fr.tmps) = true) (hd:fr.roundOf = none ∨ ∀ c,o.op ≠ .defer c) :
  stepG P true { frame :=fr,callers :=cs,status :=.running,dying :=none } w = stepG.apply P true fr cs none (execOp fr.eval o) w :=by
 have h1:fr.oper? = some o :=by simp [Frame.oper?,ht,ho]
 simp only [stepG,hm,stepG.exec,ht,ho,Option.map_some,hw,Option.getD_some,if_true,stepG.oper,h1]
 rcases hd with hd | hd
 ·simp [hd]
 ·cases hr:fr.roundOf with
  |none => rfl
  |some l =>
   split
   ·rename_i e1 e2
    exact absurd e2 (hd _)
   ·rfl
theorem OpS.skip {ops:Array Oper} {i:Nat} {o:Oper} (ho:ops[i]? = some o) (hg:qbi ops σ.tm o = some false) {tm':Tr AV} (hs:SetD σ.tm o.dst (.tup []) tm'):OpS P B ops i σ .normal { σ with tm :=tm' } :=by
 intro g fr cs w rest k hr hm ht
 have hu:VRel g w (.tup []) undef :=by simp only [VRel];exact ⟨#[],rfl,by simp [VRels]⟩
 refine ⟨g,fr.finish undef,cs,w,hr.finish ht ho hu trivial hs,Out.refl hr.h,?_,CsOk.refl _ _ _ hr.pm,fun h => h,?_,qq3 hm ht ho (qcn hr.tm hg)⟩
 ·rw [qa3 ht ho];exact ⟨rfl,rfl,rfl⟩
 ·rw [qa3 ht ho];exact ⟨hm,rfl⟩
theorem qk9 (hT:TOK P T) (hF:FOK P F) {g:Gh} {w:World} {fr:Frame} {cs:List Frame} (hr:FrRel g B w σ fr cs) {s:Nat} (hs:σ.H.o s = .hole) :
  OCtx P T F g B w σ.H s (aev σ.tm) fr.eval :=
 ⟨hT,hF,hr.h,hs,fun x => by
  have :=hr.tm.ev (a :={ tmps :=fr.tmps,defers :=fr.defers }) x
  cases x <;> exact this,fun x => hr.tm.evl x⟩
theorem qdn {o:Oper} {s:Nat} {ho:Nat → AObj} {r:PRes} {R:List Nat} {W:WL} {ev:Operand → AV} (h:EvF s (pOp P T F X ev o) ho r R W) (hr:∀ f args,r ≠ .defr f args):∀ c,o.op ≠ .defer c :=by
 intro c hc
 rw [qpv] at h
 unfold pOpM at h
 rw [hc] at h
 simp only at h
 split at h
 ·unfold qmj at h
  split at h <;> try exact h.elim
  split at h <;> try exact h.elim
  exact hr _ _ h.1
 ·exact h.elim
theorem OpS.val (hT:TOK P T) (hF:FOK P F) (hX:XOK P X) {ops:Array Oper} {i s:Nat} {o:Oper} (ho:ops[i]? = some o) (hg:qbi ops σ.tm o = some true) (hsl:σ.H.o s = .hole) {v:AV} {R:List Nat} {W:WL}
  (hev:EvF s (pOp P T F X (aev σ.tm) o) σ.H.o (.val v) R W) {tm':Tr AV} (hs:SetD σ.tm o.dst v tm'):OpS P B ops i σ .normal { σ with tm :=tm',H :=σ.H.app W } :=by
 intro g fr cs w rest k hr hm ht
 obtain ⟨u,g',w',h1,h2,h3,h4⟩ :=qf9 (qk9 hT hF hr hsl) hX hev
 have hst :=qce (P :=P) (cs :=cs) (w :=w) hm ht ho (qcn hr.tm hg) (.inr (qdn hev (by intro f args e;cases e)))
 have hr' :=hr.out h2
 refine ⟨g',fr.finish u,cs,w',hr'.finish ht ho h3 h4 hs,h2,?_,CsOk.refl _ _ _ hr.pm,fun h => h,?_,qa6 ?_⟩
 ·rw [qa3 ht ho];exact ⟨rfl,rfl,rfl⟩
 ·rw [qa3 ht ho];exact ⟨hm,rfl⟩
 ·rw [hst];simp [stepG.apply,h1]
theorem OpS.none (hT:TOK P T) (hF:FOK P F) (hX:XOK P X) {ops:Array Oper} {i s:Nat} {o:Oper} (ho:ops[i]? = some o) (hg:qbi ops σ.tm o = some true) (hsl:σ.H.o s = .hole) {R:List Nat} {W:WL}
  (hev:EvF s (pOp P T F X (aev σ.tm) o) σ.H.o .skip R W) {tm':Tr AV} (hs:SetD σ.tm o.dst (.tup []) tm'):OpS P B ops i σ .normal { σ with tm :=tm',H :=σ.H.app W } :=by
 intro g fr cs w rest k hr hm ht
 obtain ⟨g',w',h1,h2⟩ :=qf9 (qk9 hT hF hr hsl) hX hev
 have hst :=qce (P :=P) (cs :=cs) (w :=w) hm ht ho (qcn hr.tm hg) (.inr (qdn hev (by intro f args e;cases e)))
 have hr' :=hr.out h2
 have hu:VRel g' w' (.tup []) undef :=by simp only [VRel];exact ⟨#[],rfl,by simp [VRels]⟩
 refine ⟨g',fr.finish undef,cs,w',hr'.finish ht ho hu trivial hs,h2,?_,CsOk.refl _ _ _ hr.pm,fun h => h,?_,qa6 ?_⟩
 ·rw [qa3 ht ho];exact ⟨rfl,rfl,rfl⟩
 ·rw [qa3 ht ho];exact ⟨hm,rfl⟩
 ·rw [hst];simp [stepG.apply,h1]
theorem OpS.call (hT:TOK P T) (hF:FOK P F) (hX:XOK P X) {ops:Array Oper} {i s:Nat} {o:Oper} (ho:ops[i]? = some o) (hg:qbi ops σ.tm o = some true) (hsl:σ.H.o s = .hole) {f:FuncId} {args:List AV} {R:List Nat} {W:WL}
  (hev:EvF s (pOp P T F X (aev σ.tm) o) σ.H.o (.call f args) R W) {v:AV} {H':AH} (hc:CSem P B f args σ.H (.ret v) H') {tm':Tr AV} (hs:SetD σ.tm o.dst v tm') :
  OpS P B ops i σ .normal { σ with tm :=tm',H :=H' } :=by
 intro g fr cs w rest k hr hm ht
 obtain ⟨rfl,vs,h1,h2,h3⟩ :=qf9 (qk9 hT hF hr hsl) hX hev
 have hst :=qce (P :=P) (cs :=cs) (w :=w) hm ht ho (qcn hr.tm hg) (.inr (qdn hev (by intro f args e;cases e)))
 obtain ⟨g',fr',w',k1,k2,k3,u,k4,k5,k6⟩ :=hc g vs (fr :: cs) w hr.h h2 h3
 have hr' :=hr.out k1
 refine ⟨g',fr.finish u,cs,w',hr'.finish ht ho k5 k6 hs,k1,?_,CsOk.refl _ _ _ hr.pm,fun h => h,?_,?_⟩
 ·rw [qa3 ht ho];exact ⟨rfl,rfl,rfl⟩
 ·rw [qa3 ht ho];exact ⟨hm,rfl⟩
 ·refine Steps.trans (qa6 (fr' :=Frame.enter P f vs .normal) (cs' :=fr :: cs) (w' :=w) ?_) (Steps.trans k2 (.one (step_leave_returned k4)))
  rw [hst];simp [stepG.apply,h1,ht]
theorem OpS.callPanic (hT:TOK P T) (hF:FOK P F) (hX:XOK P X) {ops:Array Oper} {i s:Nat} {o:Oper} (ho:ops[i]? = some o) (hg:qbi ops σ.tm o = some true) (hsl:σ.H.o s = .hole) {f:FuncId} {args:List AV} {R:List Nat} {W:WL}
  (hev:EvF s (pOp P T F X (aev σ.tm) o) σ.H.o (.call f args) R W) {l:List (AV × Bool)} {H':AH} (hc:CSem P B f args σ.H (.panic l) H') :
  OpS P B ops i σ (.panic l) { σ with H :=H' } :=by
 intro g fr cs w rest k hr hm ht
 obtain ⟨rfl,vs,h1,h2,h3⟩ :=qf9 (qk9 hT hF hr hsl) hX hev
 have hst :=qce (P :=P) (cs :=cs) (w :=w) hm ht ho (qcn hr.tm hg) (.inr (qdn hev (by intro f args e;cases e)))
 obtain ⟨g',fr',w',k1,k2,k3,chain,k4,k5⟩ :=hc g vs (fr :: cs) w hr.h h2 h3
 have hr' :=hr.out k1
 have hraise:fr.raise chain = { fr with mode :=.panicking chain } :=by simp [Frame.raise,hm]
 refine ⟨g',fr.raise chain,cs,w',by rw [hraise];exact hr'.mode _,k1,by rw [hraise];exact ⟨rfl,rfl,rfl⟩,CsOk.refl _ _ _ hr.pm,fun h => h,⟨chain,by rw [hraise],k5⟩,?_⟩
 refine Steps.trans (qa6 (fr' :=Frame.enter P f vs .normal) (cs' :=fr :: cs) (w' :=w) ?_) (Steps.trans k2 (.one (step_leave_panicked k4)))
 rw [hst];simp [stepG.apply,h1,ht]
theorem OpS.panic (hT:TOK P T) (hF:FOK P F) (hX:XOK P X) {ops:Array Oper} {i s:Nat} {o:Oper} (ho:ops[i]? = some o) (hg:qbi ops σ.tm o = some true) (hsl:σ.H.o s = .hole) {v:AV} {R:List Nat} {W:WL}
  (hev:EvF s (pOp P T F X (aev σ.tm) o) σ.H.o (.panic v) R W):OpS P B ops i σ (.panic [(v,false)]) σ :=by
 intro g fr cs w rest k hr hm ht
 obtain ⟨rfl,u,h1,h2,h3⟩ :=qf9 (qk9 hT hF hr hsl) hX hev
 have hst :=qce (P :=P) (cs :=cs) (w :=w) hm ht ho (qcn hr.tm hg) (.inr (qdn hev (by intro f args e;cases e)))
 have hraise:fr.raise [{ v :=u,recovered :=false }] = { fr with mode :=.panicking [{ v :=u,recovered :=false }] } :=by simp [Frame.raise,hm]
 refine ⟨g,fr.raise [{ v :=u,recovered :=false }],cs,w,by rw [hraise];exact hr.mode _,Out.refl hr.h,by rw [hraise];exact ⟨rfl,rfl,rfl⟩,CsOk.refl _ _ _ hr.pm,fun h => h,
  ⟨[{ v :=u,recovered :=false }],by rw [hraise],?_⟩,?_⟩
 ·simp only [qa5]
  exact ⟨_,_,rfl,h2,h3,rfl,rfl,rfl⟩
 ·refine qa6 ?_
  rw [hst];simp [stepG.apply,h1]
theorem OpS.defr (hT:TOK P T) (hF:FOK P F) (hX:XOK P X) {ops:Array Oper} {i s:Nat} {o:Oper} (ho:ops[i]? = some o) (hg:qbi ops σ.tm o = some true) (hsl:σ.H.o s = .hole) (hrd:σ.rd = false) {f:FuncId} {args:List AV} {R:List Nat} {W:WL}
  (hev:EvF s (pOp P T F X (aev σ.tm) o) σ.H.o (.defr f args) R W) {tm':Tr AV} (hs:SetD σ.tm o.dst (.tup []) tm'):OpS P B ops i σ .normal { σ with tm :=tm',df :=.call f args :: σ.df } :=by
 intro g fr cs w rest k hr hm ht
 obtain ⟨rfl,d,h1,h2,h3⟩ :=qf9 (qk9 hT hF hr hsl) hX hev
 have hst :=qce (P :=P) (cs :=cs) (w :=w) hm ht ho (qcn hr.tm hg) (.inl (hr.rd hrd))
 have hr':FrRel g B w { σ with df :=.call f args :: σ.df } { fr with defers :=d :: fr.defers } cs :=⟨hr.h,hr.tm,⟨d,_,rfl,h2,h3,hr.df⟩,by
  have :=hr.pm
  unfold qe2 at *
  split at this <;> simp_all,hr.rd⟩
 have ht':({ fr with defers :=d :: fr.defers }:Frame).todo = .inRegion ops (i :: rest) :: k :=ht
 have hu:VRel g w (.tup []) undef :=by simp only [VRel];exact ⟨#[],rfl,by simp [VRels]⟩
 refine ⟨g,({ fr with defers :=d :: fr.defers }:Frame).finish undef,cs,w,hr'.finish ht' ho hu trivial hs,Out.refl hr.h,?_,CsOk.refl _ _ _ hr.pm,fun h => h,?_,qa6 ?_⟩
 ·rw [qa3 ht' ho];exact ⟨rfl,rfl,rfl⟩
 ·rw [qa3 ht' ho];exact ⟨hm,rfl⟩
 ·rw [hst];simp [stepG.apply,h1]
theorem SemT.region_nil {ops:Array Oper}:SemT P B [.inRegion ops []] σ .normal σ :=
 SemT.idle fun _ fr cs w k _ hm ht => qa6 (by
  simp only [List.cons_append,List.nil_append] at ht
  simp [stepG,stepG.exec,hm,ht])
theorem SemT.region_cons {ops:Array Oper} {i:Nat} {rest:List Nat} (h:OpS P B ops i σ .normal σ1) (k:SemT P B [.inRegion ops rest] σ1 e σ'):SemT P B [.inRegion ops (i :: rest)] σ e σ' :=by
 intro g fr cs w kk hr hm ht hro k' hk
 obtain ⟨g1,fr1,cs1,w1,h1,h2,h3,h4,h5,h6,h7⟩ :=h g fr cs w rest kk hr hm (by simpa using ht)
 obtain ⟨g2,fr2,cs2,w2,f1,f2,f3,f4,f5,f6,f7⟩ :=k g1 fr1 cs1 w1 kk h1 h6.1 (by simpa using h6.2) (fun e => h3.round.trans (hro e)) k' hk
 exact ⟨g2,fr2,cs2,w2,f1,h2.trans f2,h3.trans f3,h4.trans f4 h5,fun hp => f5 (h5 hp),f6,h7.trans f7⟩
theorem SemT.region_panic {ops:Array Oper} {i:Nat} {rest:List Nat} {l:List (AV × Bool)} (h:OpS P B ops i σ (.panic l) σ'):SemT P B [.inRegion ops (i :: rest)] σ (.panic l) σ' :=by
 intro g fr cs w kk hr hm ht hro k' hk
 obtain ⟨g1,fr1,cs1,w1,h1,h2,h3,h4,h5,h6,h7⟩ :=h g fr cs w rest kk hr hm (by simpa using ht)
 exact ⟨g1,fr1,cs1,w1,h1,h2,h3,h4,h5,h6,h7⟩
theorem Sem.region {id:Nat} {ops:Array Oper} (h:SemT P B [.inRegion ops (List.range ops.size)] σ e σ'):Sem P B (.region id ops false) σ e σ' :=
 SemT.ahead (its' :=[.inRegion ops (List.range ops.size)]) h (fun _ => rfl) fun _ fr cs w k _ hm ht => qa6 (by
  simp only [List.cons_append,List.nil_append] at ht
  simp [stepG,stepG.exec,hm,ht])
end
end
end Go.Abs

/-! Functions: their bodies, deferred calls, results. -/
namespace Go.Abs
open Go
noncomputable section
section
variable {P:Program} {B:Nat} {σ σ1 σ':St} {T:Tr TypeInfo} {F:Tr Func} {X:XT}
theorem qtl (hT:TOK P T) {g:Gh} {w:World} {H:AH} (hr:HRel g B w H) {s:Nat} {t:TypeId} {av v:AV} {u:Value} {R:List Nat} {W:WL} (h:EvF s (qmi T t av) H.o (.val v) R W)
  (hu:VRel g w av u) (hl:Live H.L av):∃ a x,u = .pointer (some a) ∧ (loadVar t a).run P w = .ok x w ∧ VRel g w v x ∧ Live H.L v :=by
 unfold qmi at h
 split at h
 ·rename_i hag
  have hag' :=qg6 hT hag w
  split at h <;> try exact h.elim
  rename_i i hi
  have hsz :=qbf hT hi w
  split at h
  ·rename_i o off
   simp only [VRel] at hu
   obtain ⟨R',_,h⟩ :=h
   simp only at h
   split at h <;> try exact h.elim
   rename_i tr n ty ho
   obtain ⟨hb,h⟩ :=h
   split at h <;> try exact h.elim
   rename_i l hln
   obtain ⟨e,_⟩ :=qaq h
   cases e
   obtain ⟨h1,h2⟩ :=qgc hln
   obtain ⟨cs,e1,e2,e3,e4⟩ :=hr.cellsAt ho (by simpa using hb) h1 h2
   have :=run_loadCells_list (P :=P) w ⟨g.ob o,off,none⟩ cs e2
   rw [e1] at this
   refine ⟨_,.agg cs.toArray,hu,by simp [loadVar,hag',hsz,this],?_,e4⟩
   simp only [VRel]
   exact ⟨_,rfl,by simpa using e3⟩
  ·rename_i xs off
   simp only [VRel] at hu
   obtain ⟨b,o0,hv,hb,hrr⟩ :=hu
   split at h <;> try exact h.elim
   rename_i l hln
   obtain ⟨e,_⟩ :=qaq h
   cases e
   obtain ⟨h1,h2⟩ :=qel hln
   rw [qd6] at h1
   obtain ⟨cs,e1,e2,e3⟩ :=hrr.piece h1 h2
   have :=run_loadCells_list (P :=P) w ⟨b,o0 + off,none⟩ cs e2
   rw [e1] at this
   refine ⟨_,.agg cs.toArray,hv,by simp [loadVar,hag',hsz,this],?_,?_⟩
   ·simp only [VRel]
    exact ⟨_,rfl,by simpa using e3⟩
   ·rw [h1]
    exact (Lives.drop hl off).take _
  ·exact h.elim
 ·rename_i hag
  have hag' :=qg6 hT hag w
  split at h
  ·rename_i o off
   simp only [VRel] at hu
   obtain ⟨R',_,h⟩ :=h
   simp only at h
   split at h <;> try exact h.elim
   rename_i tr n ty ho
   obtain ⟨hb,h⟩ :=h
   split at h <;> try exact h.elim
   rename_i a ha
   obtain ⟨e,_⟩ :=qaq h
   cases e
   obtain ⟨a',x,e1,e2,e3,e4⟩ :=hr.cellAt ho (j :=off) (by simpa using hb)
   rw [ha] at e1
   injection e1 with e1
   subst e1
   exact ⟨_,x,hu,by simp [loadVar,hag',e2],e3,e4⟩
  ·rename_i xs off
   simp only [VRel] at hu
   obtain ⟨b,o0,hv,hb,hrr⟩ :=hu
   split at h <;> try exact h.elim
   rename_i a ha
   obtain ⟨e,_⟩ :=qaq h
   cases e
   rw [qe0] at ha
   obtain ⟨x,e2,e3⟩ :=hrr.get xs o0 off v ha
   exact ⟨_,x,hv,by simp [loadVar,hag',e2],e3,Lives.mem xs v hl (List.mem_of_getElem? ha)⟩
  ·exact h.elim
 ·exact h.elim
def qju (arr:Array Value):ResultVar → Go.Sem Value
 | .tmp t => pure (arr.getD t undef)
 | .cell a t => do loadVar t (← asAddr (arr.getD a undef))
theorem qra (fn:Func) (arr:Array Value):Go.results fn arr = (fn.results.mapM (qju arr)) >>= fun vs => pure (if h:vs.size = 1 then vs[0] else .tuple vs) :=by
 unfold Go.results
 congr 1
def ResV (T:Tr TypeInfo) (tm:Tr AV) (o:Nat → AObj):List ResultVar → List AV → Prop
 | [],vs => vs = []
 | .tmp t :: rs,vs => ∃ vs',vs = aev tm (.tmp t) :: vs' ∧ ResV T tm o rs vs'
 | .cell a t :: rs,vs => ∃ v vs' R W,vs = v :: vs' ∧ EvF 0 (qmi T t (aev tm (.tmp a))) o (.val v) R W ∧ ResV T tm o rs vs'
def qfl:List AV → AV
 | [v] => v
 |vs => .tup vs
theorem ResV.run (hT:TOK P T) {g:Gh} {w:World} {H:AH} (hr:HRel g B w H) {tm:Tr AV} {arr:Array Value} (hf:FRel g w H.L tm arr):∀ (rs:List ResultVar) (vs:List AV),ResV T tm H.o rs vs →
  ∃ us,(rs.mapM (qju arr)).run P w = .ok us w ∧ VRels g w vs us ∧ Lives H.L vs
 | [],vs,h => by
  simp only [ResV] at h
  subst h
  exact ⟨[],by simp,by simp [VRels],trivial⟩
 | .tmp t :: rs,vs,h => by
  obtain ⟨vs',e,h⟩ :=h
  subst e
  obtain ⟨us,h1,h2,h3⟩ :=ResV.run hT hr hf rs vs' h
  have hv :=hf.ev (a :={ tmps :=arr,defers :=[] }) (.tmp t)
  refine ⟨arr.getD t undef :: us,?_,?_,hf.evl _,h3⟩
  ·rw [List.mapM_cons]
   simp only [qju,Go.Sem.run_bind,Go.Sem.run_pure,Result.andThen_ok,h1]
  ·simp only [VRels]
   exact ⟨_,_,rfl,hv,h2⟩
 | .cell a t :: rs,vs,h => by
  obtain ⟨v,vs',R,W,e,hl,h⟩ :=h
  subst e
  obtain ⟨us,h1,h2,h3⟩ :=ResV.run hT hr hf rs vs' h
  have hv :=hf.ev (a :={ tmps :=arr,defers :=[] }) (.tmp a)
  obtain ⟨ad,x,e1,e2,e3,e4⟩ :=qtl hT hr hl hv (hf.evl _)
  have e1:arr.getD a undef = .pointer (some ad) :=e1
  refine ⟨x :: us,?_,?_,e4,h3⟩
  ·rw [List.mapM_cons]
   have:(qju arr (.cell a t)).run P w = .ok x w :=by
    simp only [qju,e1,asAddr,Go.Sem.run_bind,Go.Sem.run_pure,Result.andThen_ok,e2]
   simp only [Go.Sem.run_bind,this,Go.Sem.run_pure,Result.andThen_ok,h1]
  ·simp only [VRels]
   exact ⟨_,_,rfl,e3,h2⟩
theorem ResV.results (hT:TOK P T) {g:Gh} {w:World} {H:AH} (hr:HRel g B w H) {tm:Tr AV} {arr:Array Value} (hf:FRel g w H.L tm arr) {fn:Func} {vs:List AV} (h:ResV T tm H.o fn.results.toList vs) :
  ∃ u,(Go.results fn arr).run P w = .ok u w ∧ VRel g w (qfl vs) u ∧ Live H.L (qfl vs) :=by
 obtain ⟨us,h1,h2,h3⟩ :=ResV.run hT hr hf _ _ h
 have hrun:(fn.results.mapM (qju arr)).run P w = .ok us.toArray w :=by
  rw [Array.mapM_eq_mapM_toList]
  have:∀ (m:Go.Sem (List Value)),m.run P w = .ok us w → (List.toArray <$> m).run P w = .ok us.toArray w :=fun m hm => by
   show (Go.Sem.bind m fun l => Go.Sem.pure l.toArray).run P w = _
   have hb :=Go.Sem.run_bind (P :=P) (w :=w) m (fun l => Go.Sem.pure l.toArray)
   exact hb.trans (by rw [hm];rfl)
  exact this _ h1
 have hlen :=h2.length
 rw [qra]
 simp only [Go.Sem.run_bind]
 rw [hrun]
 simp only [Result.andThen_ok,Go.Sem.run_pure]
 cases vs with
 |nil =>
  simp only [VRels] at h2
  subst h2
  refine ⟨.tuple #[],by simp,?_,h3⟩
  simp only [qfl,VRel]
  exact ⟨_,rfl,by simp [VRels]⟩
 |cons v vs =>
  cases vs with
  |nil =>
   obtain ⟨u,us',e,k1,k2⟩ :=h2
   simp only [VRels] at k2
   subst k2;subst e
   exact ⟨u,by simp,k1,h3.1⟩
  |cons v' vs =>
   refine ⟨.tuple us.toArray,?_,?_,h3⟩
   ·have:¬ us.toArray.size = 1 :=by simp [hlen]
    simp [hlen]
   ·simp only [qfl,VRel]
    exact ⟨_,rfl,by simpa using h2⟩
/-! ### Deferred calls -/
inductive UMode where
 |ret
 |pan (l:List (AV × Bool))
def UmOk (g:Gh) (w:World) (L:Nat → Prop) (um:UMode) (m:FrameMode):Prop :=
 match um with
 | .ret => m = .returning
 | .pan l => ∃ chain,m = .panicking chain ∧ qa5 g w L l chain
def ql3 (P:Program) (g:Gh) (w:World) (L:Nat → Prop) (e:AEnd) (fr:Frame):Prop :=
 fr.defers = [] ∧ match e with
  | .ret v => fr.mode = .returning ∧ ∃ fn u,P.funcs[fr.fn]? = some fn ∧ (results fn fr.tmps).run P w = .ok u w ∧ VRel g w v u ∧ Live L v
  | .panic l => ∃ chain,fr.mode = .panicking chain ∧ qa5 g w L l chain ∧ ∃ fn,P.funcs[fr.fn]? = some fn
def FSem (P:Program) (B:Nat) (f:FuncId) (κ:CallKind) (args:List AV) (pm:APm) (H:AH) (e:AEnd) (pm':APm) (H':AH):Prop :=
 ∀ g vs cs w,HRel g B w H → VRels g w args vs.toList → Lives H.L args → qe2 g w H.L pm (Frame.enter P f vs κ) cs →
  ∃ g' fr' cs' w',Out g B w H g' w' H' ∧ Steps P (lone (Frame.enter P f vs κ) cs w) (lone fr' cs' w') ∧ fr'.fn = f ∧ fr'.kind = κ ∧ CsOk pm cs cs' ∧
   qe2 g' w' H'.L pm' fr' cs' ∧ ql3 P g' w' H'.L e fr'
def USem (P:Program) (B:Nat) (f:FuncId) (um:UMode) (σ:St) (e:AEnd) (pm':APm) (H':AH):Prop :=
 ∀ g fr cs w,FrRel g B w σ fr cs → fr.fn = f → UmOk g w σ.H.L um fr.mode →
  ∃ g' fr' cs' w',Out g B w σ.H g' w' H' ∧ Steps P (lone fr cs w) (lone fr' cs' w') ∧ SameFr fr fr' ∧ CsOk σ.pm cs cs' ∧ qe2 g' w' H'.L pm' fr' cs' ∧ ql3 P g' w' H'.L e fr'
theorem UmOk.ext {L L':Nat → Prop} {g g':Gh} {w w':World} (hx:Ext L g w g' w') (hl:∀ i,L i → L' i) {um:UMode} {m:FrameMode} (h:UmOk g w L um m):UmOk g' w' L' um m :=by
 cases um with
 |ret => exact h
 |pan l =>
  obtain ⟨chain,h1,h2⟩ :=h
  exact ⟨chain,h1,h2.ext hx hl⟩
theorem USem.done_ret (hT:TOK P T) {f:FuncId} {fn:Func} (hf:P.funcs[f]? = some fn) {vs:List AV} (hdf:σ.df = []) (hres:ResV T σ.tm σ.H.o fn.results.toList vs) :
  USem P B f .ret σ (.ret (qfl vs)) σ.pm σ.H :=by
 intro g fr cs w hr hfn hm
 obtain ⟨u,h1,h2,h3⟩ :=hres.results hT hr.h hr.tm
 have hd :=hr.df
 rw [hdf] at hd
 exact ⟨g,fr,cs,w,Out.refl hr.h,Steps.refl _ _,⟨rfl,rfl,rfl⟩,CsOk.refl _ _ _ hr.pm,hr.pm,hd,hm,fn,u,by rw [hfn];exact hf,h1,h2,h3⟩
theorem USem.done_pan {f:FuncId} {fn:Func} (hf:P.funcs[f]? = some fn) {l:List (AV × Bool)} (hdf:σ.df = []):USem P B f (.pan l) σ (.panic l) σ.pm σ.H :=by
 intro g fr cs w hr hfn hm
 obtain ⟨chain,h1,h2⟩ :=hm
 have hd :=hr.df
 rw [hdf] at hd
 exact ⟨g,fr,cs,w,Out.refl hr.h,Steps.refl _ _,⟨rfl,rfl,rfl⟩,CsOk.refl _ _ _ hr.pm,hr.pm,hd,chain,h1,h2,fn,by rw [hfn];exact hf⟩
def qnu:APm → UMode
 | .no => .ret
 | .ret => .ret
 | .pan l => match l with
  | [] => .pan []
  |(v,b) :: r => match b with
   |true => .ret
   |false => .pan ((v,false) :: r)
def qs1 (l:List (AV × Bool)):APm → UMode
 | .pan l' => .pan (l ++ l')
 | _ => .pan l
def pmOf:UMode → APm
 | .ret => .ret
 | .pan l => .pan l
theorem qa5.noGoexit {g:Gh} {w:World} {L:Nat → Prop}:∀ {l:List (AV × Bool)} {es:List PanicEntry},qa5 g w L l es → es.dropWhile (!·.goexit) = []
 | [],es,h => by simp only [qa5] at h;subst h;rfl
 |(_,_) :: _,es,h => by
  obtain ⟨e,es',e1,_,_,_,h4,h5⟩ :=h
  subst e1
  simp [h4,qa5.noGoexit h5]
theorem qsv {g:Gh} {w:World} {L:Nat → Prop} {l:List (AV × Bool)} {chain:List PanicEntry} (h:qa5 g w L l chain):UmOk g w L (qnu (.pan l)) (settle (.panicking chain)) :=by
 cases l with
 |nil =>
  have h' :=h
  simp only [qa5] at h
  subst h
  exact ⟨[],rfl,h'⟩
 |cons p r =>
  obtain ⟨v,b⟩ :=p
  have h' :=h
  obtain ⟨e,es',e1,h1,h2,h3,h4,h5⟩ :=h
  subst e1
  cases b with
  |true =>
   show settle (.panicking (e :: es')) = .returning
   unfold settle
   obtain ⟨ev,er,eg⟩ :=e
   simp only at h3
   subst h3
   have :=h5.noGoexit
   simp only [this]
  |false =>
   refine ⟨e :: es',?_,h'⟩
   unfold settle
   obtain ⟨ev,er,eg⟩ :=e
   simp only at h3
   subst h3
   rfl
theorem qa5.append {g:Gh} {w:World} {L:Nat → Prop}:∀ {l l':List (AV × Bool)} {es es':List PanicEntry},qa5 g w L l es → qa5 g w L l' es' → qa5 g w L (l ++ l') (es ++ es')
 | [],_,_,_,h,k => by simp only [qa5] at h;subst h;simpa using k
 |(_,_) :: _,_,_,_,h,k => by
  obtain ⟨e,es',e1,h1,h2,h3,h4,h5⟩ :=h
  subst e1
  simp only [List.cons_append,qa5]
  exact ⟨e,_,rfl,h1,h2,h3,h4,qa5.append h5 k⟩
theorem qfs (hF:FOK P F) {f:FuncId} {fn:Func} (hf:F.get f = some fn) {c:Code} (hb:fn.body = some c) (args:Array Value) (w:World):(callFunc f args).run P w = .ok (.enter f args) w :=by
 obtain ⟨h1,h2⟩ :=hF f fn hf
 simp only [callFunc,Sem.run_bind,run_program,Result.andThen_ok,h1,h2,Bool.false_eq_true,if_false,hb,Option.isNone_some,Sem.run_pure]
theorem USem.call (hF:FOK P F) {f d:FuncId} {um um':UMode} {dfn:Func} {c:Code} (hd:F.get d = some dfn) (hb:dfn.body = some c) {args:List AV} {df:List ADf} (hdf:σ.df = .call d args :: df) {e:AEnd} {pm1:APm} {H1:AH}
  (hcall:FSem P B d .deferred args (pmOf um) σ.H e pm1 H1) (hpm1:match um with | .ret => pm1 = .ret | .pan _ => ∃ l,pm1 = .pan l)
  (hum:um' = match e with | .ret _ => qnu pm1 | .panic l => qs1 l pm1) {e':AEnd} {pm':APm} {H':AH}
  (hrest:USem P B f um' { σ with df :=df,H :=H1 } e' pm' H'):USem P B f um σ e' pm' H' :=by
 intro g fr cs w hr hfn hm
 have hdr :=hr.df
 rw [hdf] at hdr
 obtain ⟨dd,ds,e1,⟨cap,as,e2,h1⟩,h2,h3⟩ :=hdr
 have hmode:fr.mode ≠ .run :=by
  cases um with
  |ret => have:fr.mode = .returning :=hm;rw [this];simp
  |pan l => obtain ⟨chain,hc,_⟩ :=hm;rw [hc];simp
 have hinv:(invoke dd.target dd.args).run P w = .ok (.enter d (as ++ cap)) w :=by
  rw [e2];exact qfs hF hd hb _ w
 have hst :=step_defer (cs :=cs) hmode e1 (by rw [e2]) hinv
 have hpm:qe2 g w σ.H.L (pmOf um) (Frame.enter P d (as ++ cap) .deferred) ({ fr with defers :=ds } :: cs) :=by
  cases um with
  |ret => exact ⟨rfl,rfl,_,_,rfl,hm⟩
  |pan l => obtain ⟨chain,hc,hcr⟩ :=hm;exact ⟨rfl,rfl,_,_,chain,rfl,hc,hcr⟩
 obtain ⟨g1,fr1,cs1,w1,k1,k2,k3,k4,k5,k6,k7,k8⟩ :=hcall g (as ++ cap) ({ fr with defers :=ds } :: cs) w hr.h h1 h2 hpm
 -- the caller's frame behind the call
 obtain ⟨m1,hcs1,hm1⟩ : ∃ m1,cs1 = { ({ fr with defers :=ds }:Frame) with mode :=m1 } :: cs ∧ match pm1 with | .pan l => ∃ chain,m1 = .panicking chain ∧ qa5 g1 w1 H1.L l chain | _ => m1 = .returning :=by
  cases um with
  |ret =>
   have hp:pm1 = .ret :=hpm1
   subst hp
   have k5:cs1 = _ :=k5
   exact ⟨fr.mode,k5,hm⟩
  |pan l =>
   obtain ⟨l1,hp⟩ :=hpm1
   subst hp
   obtain ⟨c0,rest,m,q1,q2⟩ :=k5
   injection q1 with q3 q4
   subst q3;subst q4
   obtain ⟨_,_,c1,rest1,chain,q5,q6,q7⟩ :=k6
   rw [q2] at q5
   injection q5 with q8 q9
   subst q8
   exact ⟨m,q2,chain,q6,q7⟩
 subst hcs1
 have hfr:∀ m:FrameMode,FrRel g1 B w1 { σ with df :=df,H :=H1 } { ({ fr with defers :=ds }:Frame) with mode :=m } cs :=fun m =>
  ⟨k1.rel,hr.tm.ext k1.ext k1.L,h3.ext k1.ext k1.L,by
   have :=hr.pm.ext k1.ext k1.L
   unfold qe2 at *
   split at this <;> simp_all,hr.rd⟩
 have finish:∀ m:FrameMode,UmOk g1 w1 H1.L um' m → Steps P (lone fr1 ({ ({ fr with defers :=ds }:Frame) with mode :=m1 } :: cs) w1) (lone { ({ fr with defers :=ds }:Frame) with mode :=m } cs w1) →
   ∃ g' fr' cs' w',Out g B w σ.H g' w' H' ∧ Steps P (lone fr cs w) (lone fr' cs' w') ∧ SameFr fr fr' ∧ CsOk σ.pm cs cs' ∧ qe2 g' w' H'.L pm' fr' cs' ∧ ql3 P g' w' H'.L e' fr' :=by
  intro m hum hs
  obtain ⟨g2,fr2,cs2,w2,q1,q2,q3,q4,q5,q6⟩ :=hrest g1 _ cs w1 (hfr m) hfn hum
  exact ⟨g2,fr2,cs2,w2,k1.trans q1,.head hst (k2.trans (hs.trans q2)),⟨q3.fn,q3.kind,q3.round⟩,q4,q5,q6⟩
 cases e with
 |ret v =>
  obtain ⟨k8,fn,u,k9,k10,_⟩ :=k8
  have hgo:fr1.going P w1 (.returned u) :=⟨k8,k7,fn,k9,k10⟩
  have hstep :=step_going_returned (c :={ ({ fr with defers :=ds }:Frame) with mode :=m1 }) (cs :=cs) k4 hgo
  refine finish (settle m1) ?_ (.one hstep)
  subst hum
  cases pm1 with
  |no =>
   have hm1:m1 = .returning :=hm1
   subst hm1;rfl
  |ret =>
   have hm1:m1 = .returning :=hm1
   subst hm1;rfl
  |pan l =>
   obtain ⟨chain,rfl,hcr⟩ :=hm1
   exact qsv hcr
 |panic l =>
  obtain ⟨chain,k8,k9,fn,k10⟩ :=k8
  have hgo:fr1.going P w1 (.panicked chain) :=⟨k8,k7,fn,k10⟩
  have hstep :=step_going_panicked (c :={ ({ fr with defers :=ds }:Frame) with mode :=m1 }) (cs :=cs) hgo
  refine finish (raised m1 chain) ?_ (.one hstep)
  subst hum
  cases pm1 with
  |no =>
   have hm1:m1 = .returning :=hm1
   subst hm1;exact ⟨chain,rfl,k9⟩
  |ret =>
   have hm1:m1 = .returning :=hm1
   subst hm1;exact ⟨chain,rfl,k9⟩
  |pan l' =>
   obtain ⟨chain',rfl,hcr⟩ :=hm1
   exact ⟨chain ++ chain',rfl,k9.append hcr⟩
theorem USem.mark {f:FuncId} {um:UMode} {o:Nat} {df:List ADf} (hdf:σ.df = .mark o :: df) (ho:σ.H.o o = .dfr false) {e':AEnd} {pm':APm} {H':AH}
  (hrest:USem P B f um { σ with df :=df,H :=σ.H.put o (.dfr true) 0 } e' pm' H'):USem P B f um σ e' pm' H' :=by
 intro g fr cs w hr hfn hm
 have hdr :=hr.df
 rw [hdf] at hdr
 obtain ⟨ds,e1,h1,h2⟩ :=hdr
 have hro :=hr.h.rel o
 rw [ho] at hro
 obtain ⟨m1,m2⟩ :=hro
 have hlt:g.ob o < w.heap.size :=by
  have :=(hr.h.ge o h1).2
  rw [ho] at this
  exact this
 have hout:Out g B w σ.H g { w with heap :=w.heap.setIfInBounds (g.ob o) (.deferred none) } (σ.H.put o (.dfr true) 0) :=by
  refine hr.h.setOb h1 (by rw [ho];rfl) m2 (by simp) rfl 0 (by simp) (fun k hk => ?_) rfl rfl rfl ?_ trivial trivial
  ·show (w.heap.setIfInBounds (g.ob o) _)[k]? = _
   rw [Array.getElem?_setIfInBounds_ne (by omega)]
  ·intro _
   refine ⟨?_,m2⟩
   show (w.heap.setIfInBounds (g.ob o) _)[g.ob o]? = _
   rw [Array.getElem?_setIfInBounds_self_of_lt hlt]
   rfl
 have hr':FrRel g B { w with heap :=w.heap.setIfInBounds (g.ob o) (.deferred none) } { σ with df :=df,H :=σ.H.put o (.dfr true) 0 } { fr with defers :=ds } cs :=
  ⟨hout.rel,hr.tm.ext hout.ext hout.L,h2.ext hout.ext hout.L,by
   have :=hr.pm.ext hout.ext hout.L
   unfold qe2 at *
   split at this <;> simp_all,hr.rd⟩
 obtain ⟨g2,fr2,cs2,w2,q1,q2,q3,q4,q5,q6⟩ :=hrest g { fr with defers :=ds } cs _ hr' hfn (hm.ext hout.ext hout.L)
 refine ⟨g2,fr2,cs2,w2,hout.trans q1,(qa6 ?_).trans q2,⟨q3.fn,q3.kind,q3.round⟩,q4,q5,q6⟩
 have htake:(Instr.takeDeferred (g.ob o)).run P w = .ok [] { w with heap :=w.heap.setIfInBounds (g.ob o) (.deferred none) } :=by
  simp [Instr.takeDeferred,getObj,setObj,Sem.run,m1]
 have hmode:fr.mode ≠ .run :=by
  cases um with
  |ret => have:fr.mode = .returning :=hm;rw [this];simp
  |pan l => obtain ⟨chain,hc,_⟩ :=hm;rw [hc];simp
 cases hmd:fr.mode with
 |run => exact absurd hmd hmode
 |returning => simp [stepG,unwind,hmd,e1,htake]
 |panicking chain => simp [stepG,unwind,hmd,e1,htake]
/-! ### Bodies -/
def qq0 (args:List AV) (n:Nat) (tm:Tr AV):Prop :=∀ j,tm.get j = if j < args.length then args[j]? else if j < n then some .unk else none
theorem qq0.rel {g:Gh} {w:World} {L:Nat → Prop} {args:List AV} {n:Nat} {tm:Tr AV} (h:qq0 args n tm) {vs:Array Value} (hv:VRels g w args vs.toList) (hl:Lives L args) (hn:args.length ≤ n) :
  FRel g w L tm (vs ++ Array.replicate (n - vs.size) undef) :=by
 have hlen :=hv.length
 have hvs:vs.size = args.length :=by rw [← hlen];simp
 constructor
 ·intro t a ha
  rw [h] at ha
  split at ha
  ·rename_i ht
   obtain ⟨v,h1,h2⟩ :=hv.get _ _ ha
   refine ⟨by simp;omega,?_⟩
   rw [Array.getD_eq_getD_getElem?,Array.getElem?_append_left (by omega)]
   rw [Array.getElem?_toList] at h1
   rw [h1]
   exact h2
  ·split at ha
   ·cases ha
    refine ⟨by simp;omega,trivial⟩
   ·cases ha
 ·intro t a ha
  rw [h] at ha
  split at ha
  ·exact hl.mem _ _ (List.mem_of_getElem? ha)
  ·split at ha
   ·cases ha;trivial
   ·cases ha
theorem FSem.body (hF:FOK P F) {f:FuncId} {fn:Func} (hf:F.get f = some fn) {c:Code} (hb:fn.body = some c) {κ:CallKind} {args:List AV} {pm:APm} {H:AH} {tm:Tr AV} (hn:args.length ≤ fn.ntmps) (htm:qq0 args fn.ntmps tm)
  {ex:AEx} {um:UMode} (hex:match ex with | .normal => um = .ret | .ret => um = .ret | .panic l => um = .pan l | .exit _ => False)
  (hbody:Sem P B c { tm :=tm,df :=[],pm :=pm,rd :=false,H :=H } ex σ1) (hpmk:(∀ l,pm ≠ .pan l) → ∀ l,σ1.pm ≠ .pan l) {e:AEnd} {pm':APm} {H':AH} (hu:USem P B f um σ1 e pm' H') (hpmk':(∀ l,σ1.pm ≠ .pan l) → ∀ l,pm' ≠ .pan l) :
  FSem P B f κ args pm H e pm' H' :=by
 intro g vs cs w hr hv hl hpm
 have _ :=hpmk'
 obtain ⟨hf1,_⟩ :=hF f fn hf
 have hlen :=hv.length
 have henter:Frame.enter P f vs κ = { fn :=f,tmps :=vs ++ Array.replicate (fn.ntmps - vs.size) undef,todo :=[.code c],defers :=[],mode :=.run,kind :=κ } :=by
  simp [Frame.enter,hf1,hb]
 rw [henter] at hpm ⊢
 generalize hfr:({ fn :=f,tmps :=vs ++ Array.replicate (fn.ntmps - vs.size) undef,todo :=[.code c],defers :=[],mode :=.run,kind :=κ }:Frame) = fr at hpm ⊢
 have hrel:FrRel g B w { tm :=tm,df :=[],pm :=pm,rd :=false,H :=H } fr cs :=by
  refine ⟨hr,?_,?_,hpm,fun _ => ?_⟩
  ·rw [← hfr];exact htm.rel hv hl hn
  ·rw [← hfr];rfl
  ·rw [← hfr]
 have hmode:fr.mode = .run :=by rw [← hfr]
 have htodo:fr.todo = [.code c] ++ [] :=by rw [← hfr];rfl
 have hround:fr.roundOf = none :=by rw [← hfr]
 have hfn:fr.fn = f :=by rw [← hfr]
 have hkind:fr.kind = κ :=by rw [← hfr]
 obtain ⟨k',hk'⟩ : ∃ k',tgt ex [] = some k' :=by
  cases ex <;> first
   |exact ⟨_,rfl⟩
   |exact hex.elim
 obtain ⟨g1,fr1,cs1,w1,h1,h2,h3,h4,h5,h6,h7⟩ :=hbody g fr cs w [] hrel hmode htodo (fun _ => hround) k' hk'
 have go:∀ fr2:Frame,SameFr fr fr2 → FrRel g1 B w1 σ1 fr2 cs1 → UmOk g1 w1 σ1.H.L um fr2.mode → Steps P (lone fr1 cs1 w1) (lone fr2 cs1 w1) →
   ∃ g' fr' cs' w',Out g B w H g' w' H' ∧ Steps P (lone fr cs w) (lone fr' cs' w') ∧ fr'.fn = f ∧ fr'.kind = κ ∧ CsOk pm cs cs' ∧ qe2 g' w' H'.L pm' fr' cs' ∧ ql3 P g' w' H'.L e fr' :=by
  intro fr2 hsame hrel2 hum hs
  obtain ⟨g3,fr3,cs3,w3,q1,q2,q3,q4,q5,q6⟩ :=hu g1 fr2 cs1 w1 hrel2 (hsame.fn.trans hfn) hum
  exact ⟨g3,fr3,cs3,w3,h2.trans q1,h7.trans (hs.trans q2),q3.fn.trans (hsame.fn.trans hfn),q3.kind.trans (hsame.kind.trans hkind),h4.trans q4 hpmk,q5,q6⟩
 cases ex with
 |normal =>
  subst hex
  obtain ⟨h8,h9⟩ :=h6
  simp only [tgt,Option.some.injEq] at hk'
  subst hk'
  refine go { fr1 with mode :=.returning } ⟨h3.fn,h3.kind,h3.round⟩ (h1.mode _) rfl (qa6 ?_)
  have hro:fr1.roundOf = none :=h3.round.trans hround
  simp [stepG,stepG.exec,h8,h9,hro]
 |ret =>
  subst hex
  exact go fr1 h3 h1 h6 (Steps.refl _ _)
 |panic l =>
  subst hex
  exact go fr1 h3 h1 h6 (Steps.refl _ _)
 |exit id => exact hex.elim
theorem CSem.of_F {f:FuncId} {args:List AV} {H H':AH} {e:AEnd} {pm':APm} (h:FSem P B f .normal args .no H e pm' H'):CSem P B f args H e H' :=by
 intro g vs cs w hr hv hl
 obtain ⟨g',fr',cs',w',h1,h2,h3,h4,h5,h6,h7,h8⟩ :=h g vs cs w hr hv hl trivial
 have h5:cs' = cs :=h5
 subst h5
 refine ⟨g',fr',w',h1,h2,h3,?_⟩
 cases e with
 |ret v =>
  obtain ⟨k1,fn,u,k2,k3,k4,k5⟩ :=h8
  exact ⟨u,⟨k1,h7,h4,fn,k2,k3⟩,k4,k5⟩
 |panic l =>
  obtain ⟨chain,k1,k2,fn,k3⟩ :=h8
  exact ⟨chain,⟨k1,h7,fn,k3⟩,k2⟩
end
end
end Go.Abs

