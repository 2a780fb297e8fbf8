/-
  What every law of the seat hands in alike: the listed tables, the last step of a row.
-/
import Derived.ProofKit
import Derived.OpenShut
import Derived.LaidMore
import Derived.Lay
import Derived.Below
import Derived.ChangeSame
import Derived.SevenTiedAt
import Derived.Stop.Joined
import Derived.Lib.SmallJoins
import Derived.Test.YtcnidgafdonioaaGreatRows
import Derived.Test.YtcnidgafdonioaaGreatVU13
import Derived.Test.YtcnidgafdonioaaGreatVU5
import Derived.WideKeyArgs
import Derived.Carry
import Derived.Test.YtcnidgafdonioaaGreatVU7
import Derived.Deep.SlicePairs
import Derived.Test.YtcnidgafdonioaaGreatVU14
import Derived.Deep.Slices
import Derived.Test.YtcnidgafdonioaaGreatVU11
import Derived.Test.YtcnidgafdonioaaGreatVE96
/-! What every law of the seat hands in alike: the listed tables, the last step of a row. -/
namespace Go.Proofs.YtcnidgafdonioaaGreat
open Go.ChangeShapes Go.WideShapes Go.ChangeAt Go.RowKit Go.Joins
open Go.Abs (VRels VRel ghOf noL Lives Live AV Own Pure)
theorem ownKnobNone:ownKnob Tryz.prog.godebug = none :=by kernel_rfl
noncomputable def listed:List (String × DataW Unit) :=[]
section
variable {H:Type} {enc:TypeId × Value → H} {P:Program}
theorem post_beside {f:Func} {s:ChangeSpec} {apart fresh handsOn again:Bool} {W W':World} {args:Array Value} {v:Value} {ds gs:List (DataW H)} {before pa pv:List MemPlace}
  (hW:DataW.Whole enc P f.params.toList s.vars apart W args.toList ds gs before)
  (hres:∀ (b:Nat) (sp:Nat → Bool) (hd:Bool),DataW.TrodAll enc P W' b sp hd f.resultTypes.toList (v.resultList f.resultTypes.size) (s.fn H (ds ++ gs)).results [])
  (hargs:∀ sp:Nat → Bool,(∀ p ∈ before,sp p.block = true) → DataW.TrodAll enc P W' 0 sp true f.params.toList args.toList (s.fn H (ds ++ gs)).args pa)
  (hvars:∀ sp:Nat → Bool,(∀ p ∈ before,sp p.block = true) → DataW.TrodVars enc P W' sp s.vars (s.fn H (ds ++ gs)).vars pv)
  (hps:before = pa ++ pv) (hb:Below W.heap.size W W')
  (hok:∀ (j:Nat) (t:TypeId) (r:Value),f.resultTypes[j]? = some t → (v.resultList f.resultTypes.size)[j]? = some r → Value.okWide P W' .any 0 t r) :
  s.post enc P f apart fresh handsOn again W args v W' :=by
 have hin:∀ p ∈ before,p.block < W.heap.size :=fun p hp => hW.lt p hp
 have hsp:∀ p ∈ before,(fun b => decide (b < W.heap.size)) p.block = true :=fun p hp => by simpa using hin p hp
 refine ⟨ds,gs,before,[],pa,pv,hW,hres _ _ _,hargs _ hsp,hvars _ hsp,World.keptBut_mono (fun p hp => ⟨hp,?_⟩) (hb.frame (· ∈ before)),fun _ => ?_⟩
 ·rw [hps,List.mem_append] at hp
  exact Or.inr hp
 ·obtain ⟨_,_,_,_,_,hz,hn⟩ :=hW
  refine ⟨hok,_,_,([] ++ pa) ++ pv,⟨[] ++ pa,pv,trodAll_append (hargs _ (fun _ _ => rfl)) (hres _ _ _),hvars _ (fun _ _ => rfl),rfl,?_,?_⟩,?_⟩
  ·intro b off hp
   have hm:MemPlace.cell b off ∈ before :=by rw [hps];simpa using hp
   rw [hb.frozen (hin _ hm)]
   exact hz b off hm
  ·intro ha
   have :=hn ha
   rw [hps] at this
   simpa using this
  ·intro p hp _
   rw [hps]
   simpa using hp
end
end Go.Proofs.YtcnidgafdonioaaGreat

/-! The last step of a law: it answers true, and all that the caller has is as it was. -/
namespace Go.Proofs.YtcnidgafdonioaaGreat
open Go.ChangeShapes Go.WideShapes Go.ChangeAt Go.RowKit Go.Joins
open Go.Abs (VRels VRel ghOf noL Lives Live AV Own Pure)
theorem laidOutProg:laidOutB Tryz.prog = true :=by kernel_rfl
section
variable {H:Type} {enc:TypeId × Value → H} {P:Program}
theorem args_stay (hl:laidOutB P = true) {W W':World} (hb:Below W.heap.size W W') (sp:Nat → Bool):∀ {ts:List TypeId} {vs:List Value} {ds:List (DataW H)} {ps:List MemPlace},
  (ts.all fun t => P.readableRec t && decide (t < P.types.size)) = true → DataW.TrodAll enc P W 0 (fun _ => true) true ts vs ds ps → (∀ x ∈ ps,x.block < W.heap.size) → (∀ x ∈ ps,sp x.block = true) →
  DataW.TrodAll enc P W' 0 sp true ts vs ds ps
 | [],[],[],_,_,h,_,_ => h
 | [],[],_ :: _,_,_,h,_,_ => h.elim
 | [],_ :: _,_,_,_,h,_,_ => h.elim
 | _ :: _,[],_,_,_,h,_,_ => h.elim
 | _ :: _,_ :: _,[],_,_,h,_,_ => h.elim
 |t :: ts,v :: vs,d :: ds,ps,ht,h,hlt,hs => by
  obtain ⟨p,q,h1,h2,rfl⟩ :=h
  simp only [List.all_cons,Bool.and_eq_true,decide_eq_true_eq] at ht
  exact ⟨p,q,WideElems.Trod_stays hl ht.1.1 ht.1.2 h1 (fun x hx => hb.same (hlt x (List.mem_append_left _ hx))) (fun x hx => hs x (List.mem_append_left _ hx)),
   args_stay hl hb sp ht.2 h2 (fun x hx => hlt x (List.mem_append_right _ hx)) (fun x hx => hs x (List.mem_append_right _ hx)),rfl⟩
theorem law_post {f:Func} {s:ChangeSpec} {apart fresh handsOn again:Bool} {W W':World} {args:Array Value} {ds:List (DataW H)} {before:List MemPlace} {tb:TypeId}
  (hl:laidOutB P = true) (hts:(f.params.toList.all fun t => P.readableRec t && decide (t < P.types.size)) = true) (hr:f.resultTypes = #[tb]) (htb:P.underlying tb = some .bool) (hvars:s.vars = [])
  (hfn:s.fn H ds = { results :=[.lit (.bool true)],args :=ds }) (hW:DataW.Whole enc P f.params.toList s.vars apart W args.toList ds [] before) (hb:Below W.heap.size W W') :
  s.post enc P f apart fresh handsOn again W args (.bool true) W' :=by
 have hW' :=hW
 obtain ⟨p,q,hA,hV,rfl,_,_⟩ :=hW
 have hlt:∀ x ∈ p ++ q,x.block < W.heap.size :=fun x hx => hW'.lt x hx
 rw [hvars] at hV
 obtain ⟨_,rfl⟩ :=trodVars_none hV
 have e:s.fn H (ds ++ []) = { results :=[.lit (.bool true)],args :=ds } :=by rw [List.append_nil];exact hfn
 refine post_beside (pa :=p) (pv :=[]) hW' (fun b sp hd => ?_) (fun sp hsp => ?_) (fun sp _ => ?_) rfl hb ?_
 ·rw [e,hr]
  exact trodAll_mk1 (shut_bool htb _)
 ·rw [e]
  exact args_stay hl hb sp hts hA (fun x hx => hlt x (List.mem_append_left _ hx)) (fun x hx => hsp x (List.mem_append_left _ hx))
 ·rw [e,hvars]
  rfl
 ·exact ok_one hr rfl (okWide_bool_mk htb _)
end
end Go.Proofs.YtcnidgafdonioaaGreat

namespace Go.Proofs.YtcnidgafdonioaaGreat
open Go.ChangeShapes Go.WideShapes Go.ChangeAt Go.RowKit Go.Joins Go.Deep
open Go.Abs (VRels VRel LRel ghOf noL Lives Live AV Own Pure Gh)
open Go.Abs.Seat (pv flat flat_len)
theorem lrel_pairs {w:World} {b:Nat}:∀ (n off:Nat),(∀ i,i < n → ∃ z0 z1:Int,w.cell? ⟨b,off + i * 2,none⟩ = some (.int .i64 z0) ∧ w.cell? ⟨b,off + i * 2 + 1,none⟩ = some (.int .i64 z1)) →
  ∃ l:List (Int × Int),l.length = n ∧ ∀ g:Gh,LRel g w (flat l) b off
 | 0,_,_ => ⟨[],rfl,fun _ => trivial⟩
 |n + 1,off,h => by
  obtain ⟨z0,z1,h0,h1⟩ :=h 0 (by omega)
  obtain ⟨l,hl,hr⟩ :=lrel_pairs n (off + 2) fun i hi => by
   obtain ⟨y0,y1,k0,k1⟩ :=h (i + 1) (by omega)
   refine ⟨y0,y1,?_,?_⟩
   ·rw [show off + 2 + i * 2 = off + (i + 1) * 2 by omega];exact k0
   ·rw [show off + 2 + i * 2 + 1 = off + (i + 1) * 2 + 1 by omega];exact k1
  exact ⟨(z0,z1) :: l,by simp [hl],fun g => ⟨⟨_,by simpa using h0,rfl⟩,⟨_,by simpa using h1,rfl⟩,hr g⟩⟩
theorem block_lt {w:World} {b:Nat} {x:TypeId × Nat} (h:w.shape? b = some x):b < w.heap.size :=by
 by_cases hb:b < w.heap.size
 ·exact hb
 ·have e:w.heap[b]? = none :=by simp;omega
  simp [World.shape?,e] at h
theorem add_mk (b off k:Nat):(⟨b,off,none⟩ : Addr).add k = ⟨b,off + k,none⟩ :=by
 unfold Addr.add
 split
 ·rename_i h;subst h;rfl
 ·rfl
theorem open_pairs {H:Type} {enc:TypeId × Value → H} {P:Program} {w:World} {base0:Nat} {ts te:TypeId} {f0 f1:Field} {v:Value} {d:DataW H} {p:List MemPlace}
  (ht:P.underlying ts = some (.slice te)) (he:P.underlying te = some (.struct #[f0,f1])) (ce:P.cellsOf te = 2) (o0:f0.offset = 0) (o1:f1.offset = 1) (c0:P.cellsOf f0.type = 1) (c1:P.cellsOf f1.type = 1)
  (i0:P.underlying f0.type = some (.int .i64)) (i1:P.underlying f1.type = some (.int .i64))
  (hv:Value.okWide P w .any base0 ts v) (h:DataW.Trod enc P w 0 (fun _ => true) true ts v d p) :
  v = .slice none 0 0 ∨ ∃ (l:List (Int × Int)) (N:Nat),∀ M,N ≤ M → VRel (ghOf (fun _ => M) w) w (pv l) v :=by
 obtain ⟨a,len,cap,rfl⟩ :=okWide_slice ht hv
 obtain ⟨fuel,hf⟩ :=h
 rcases open_slice_pairs ht he ce o0 o1 c0 c1 hf with ⟨h1,_⟩ | ⟨a',len',cap',m,n,V0,V1,D0,D1,P0,P1,h1,_,hl,_,hm,_,hx⟩
 ·left
  simpa [Value.cells] using h1
 ·right
  have e1:a = some a' ∧ len = len' ∧ cap = cap' :=by simpa [Value.cells] using h1
  obtain ⟨rfl,rfl,rfl⟩ :=e1
  have hh:w.has P .any base0 a' te cap :=by
   simp only [Value.okWide,ht,Cell.okWide,Cell.ok] at hv
   exact hv.2.2
  obtain ⟨_,hs,row,cells,hsh,_⟩ :=hh
  have hb :=block_lt hsh
  obtain ⟨b,off,sp⟩ :=a'
  simp only at hs hb
  subst hs
  simp only [if_true] at hm
  subst hm
  have hc:∀ i,i < len → ∃ z0 z1:Int,w.cell? ⟨b,off + i * 2,none⟩ = some (.int .i64 z0) ∧ w.cell? ⟨b,off + i * 2 + 1,none⟩ = some (.int .i64 z1) :=by
   intro i hi
   obtain ⟨k0,k1,k2,k3⟩ :=hx i (by omega)
   obtain ⟨z0,q0,_,_⟩ :=DataW.trod_int i0 k2
   obtain ⟨z1,q1,_,_⟩ :=DataW.trod_int i1 k3
   simp at q0 q1
   rw [q0] at k0
   rw [q1] at k1
   rw [add_mk] at k0 k1
   exact ⟨z0,z1,k0,k1⟩
  obtain ⟨l,rfl,hr⟩ :=lrel_pairs len off hc
  refine ⟨l,off + l.length * 2,fun M hM => ⟨b,off,_,rfl,hl,?_,hr _,trivial⟩⟩
  rw [flat_len]
  show off + l.length * 2 ≤ if b < w.heap.size then M else 0
  rw [if_pos hb]
  exact hM
theorem train_arg {H:Type} {enc:TypeId × Value → H} {P:Program} {w:World} {base0:Nat} {ts te:TypeId} {f0 f1:Field} {v:Value} {d:DataW H} {p:List MemPlace}
  (ht:P.underlying ts = some (.slice te)) (he:P.underlying te = some (.struct #[f0,f1])) (ce:P.cellsOf te = 2) (o0:f0.offset = 0) (o1:f1.offset = 1) (c0:P.cellsOf f0.type = 1) (c1:P.cellsOf f1.type = 1)
  (i0:P.underlying f0.type = some (.int .i64)) (i1:P.underlying f1.type = some (.int .i64))
  (hv:Value.okWide P w .any base0 ts v) (h:DataW.Trod enc P w 0 (fun _ => true) true ts v d p) :
  ∃ (x:AV) (k N:Nat),Live noL x ∧ ((∃ y z,Go.Abs.Seat.TV x k y z) ∨ Go.Abs.Seat.TN x k) ∧ ∀ M,N ≤ M → VRel (ghOf (fun _ => M) w) w x v :=by
 rcases open_pairs ht he ce o0 o1 c0 c1 i0 i1 hv h with rfl | ⟨l,N,hr⟩
 ·exact ⟨.nils,0,0,trivial,.inr Go.Abs.Seat.tn_nils,fun _ _ => rfl⟩
 ·exact ⟨pv l,l.length,N,Go.Abs.Seat.pv_no l,Go.Abs.Seat.train_or l,hr⟩
end Go.Proofs.YtcnidgafdonioaaGreat
/-! Lists of numbers as arguments, opened; more arguments. -/
namespace Go.Proofs.YtcnidgafdonioaaGreat
open Go.ChangeShapes Go.WideShapes Go.ChangeAt Go.RowKit Go.Joins Go.Deep
open Go.Abs (VRels VRel LRel ghOf noL Lives Live AV Own Pure Gh)
open Go.Abs.Seat (ivs nl ivs_len IL)
section
variable {H:Type} {enc:TypeId × Value → H} {P:Program} {w:World} {base:Nat} {spare:Nat → Bool} {held:Bool}
theorem trodAll_eight {t0 t1 t2 t3 t4 t5 t6 t7:TypeId} {args:Array Value} {ds:List (DataW H)} {ps:List MemPlace} (h:DataW.TrodAll enc P w base spare held [t0,t1,t2,t3,t4,t5,t6,t7] args.toList ds ps) :
  ∃ v0 v1 v2 v3 v4 v5 v6 v7 d0 d1 d2 d3 d4 d5 d6 d7 p0 p1 p2 p3 p4 p5 p6 p7,args = #[v0,v1,v2,v3,v4,v5,v6,v7] ∧ ds = [d0,d1,d2,d3,d4,d5,d6,d7] ∧ ps = p0 ++ p1 ++ p2 ++ p3 ++ p4 ++ p5 ++ p6 ++ p7 ∧ DataW.Trod enc P w base spare held t0 v0 d0 p0 ∧ DataW.Trod enc P w base spare held t1 v1 d1 p1 ∧ DataW.Trod enc P w base spare held t2 v2 d2 p2 ∧ DataW.Trod enc P w base spare held t3 v3 d3 p3 ∧ DataW.Trod enc P w base spare held t4 v4 d4 p4 ∧ DataW.Trod enc P w base spare held t5 v5 d5 p5 ∧ DataW.Trod enc P w base spare held t6 v6 d6 p6 ∧ DataW.Trod enc P w base spare held t7 v7 d7 p7 :=by
 obtain ⟨v0,vs0,d0,ds0,p0,q0,hargs,rfl,rfl,hd0,hr0⟩ :=trodAll_cons h
 obtain ⟨v1,vs1,d1,ds1,p1,q1,rfl,rfl,rfl,hd1,hr1⟩ :=trodAll_cons hr0
 obtain ⟨v2,vs2,d2,ds2,p2,q2,rfl,rfl,rfl,hd2,hr2⟩ :=trodAll_cons hr1
 obtain ⟨v3,vs3,d3,ds3,p3,q3,rfl,rfl,rfl,hd3,hr3⟩ :=trodAll_cons hr2
 obtain ⟨v4,vs4,d4,ds4,p4,q4,rfl,rfl,rfl,hd4,hr4⟩ :=trodAll_cons hr3
 obtain ⟨v5,vs5,d5,ds5,p5,q5,rfl,rfl,rfl,hd5,hr5⟩ :=trodAll_cons hr4
 obtain ⟨v6,vs6,d6,ds6,p6,q6,rfl,rfl,rfl,hd6,hr6⟩ :=trodAll_cons hr5
 obtain ⟨v7,vs7,d7,ds7,p7,q7,rfl,rfl,rfl,hd7,hr7⟩ :=trodAll_cons hr6
 obtain ⟨rfl,rfl,rfl⟩ :=trodAll_nil hr7
 exact ⟨v0,v1,v2,v3,v4,v5,v6,v7,d0,d1,d2,d3,d4,d5,d6,d7,p0,p1,p2,p3,p4,p5,p6,p7,by cases args;simp_all,rfl,by simp,hd0,hd1,hd2,hd3,hd4,hd5,hd6,hd7⟩
end
theorem lrel_ints {w:World} {b:Nat}:∀ (n off:Nat),(∀ i,i < n → ∃ z:Int,w.cell? ⟨b,off + i,none⟩ = some (.int .i64 z)) →
  ∃ l:List Int,l.length = n ∧ ∀ g:Gh,LRel g w (ivs l) b off
 | 0,_,_ => ⟨[],rfl,fun _ => trivial⟩
 |n + 1,off,h => by
  obtain ⟨z,h0⟩ :=h 0 (by omega)
  obtain ⟨l,hl,hr⟩ :=lrel_ints n (off + 1) fun i hi => by
   obtain ⟨y,k⟩ :=h (i + 1) (by omega)
   exact ⟨y,by rw [show off + 1 + i = off + (i + 1) by omega];exact k⟩
  exact ⟨z :: l,by simp [hl],fun g => ⟨⟨_,by simpa using h0,rfl⟩,hr g⟩⟩
theorem ints_arg {H:Type} {enc:TypeId × Value → H} {P:Program} {w:World} {base0:Nat} {ts te:TypeId} {v:Value} {d:DataW H} {p:List MemPlace}
  (ht:P.underlying ts = some (.slice te)) (ce:P.cellsOf te = 1) (i0:P.underlying te = some (.int .i64))
  (hv:Value.okWide P w .any base0 ts v) (h:DataW.Trod enc P w 0 (fun _ => true) true ts v d p) :
  ∃ (x:AV) (l:List Int) (N:Nat),Live noL x ∧ IL x l ∧ ∀ M,N ≤ M → VRel (ghOf (fun _ => M) w) w x v :=by
 obtain ⟨a,len,cap,rfl⟩ :=okWide_slice ht hv
 obtain ⟨fuel,hf⟩ :=h
 rcases open_slice1 ht ce hf with ⟨h1,_⟩ | ⟨a',len',cap',m,n,V,D,Pl,h1,_,hl,_,hm,_,hx⟩
 ·have h1:a = none ∧ len = 0 ∧ cap = 0 :=by simpa [Value.cells] using h1
  obtain ⟨rfl,rfl,rfl⟩ :=h1
  exact ⟨.nils,[],0,trivial,.inl ⟨rfl,rfl⟩,fun _ _ => rfl⟩
 ·have e1:a = some a' ∧ len = len' ∧ cap = cap' :=by simpa [Value.cells] using h1
  obtain ⟨rfl,rfl,rfl⟩ :=e1
  have hh:w.has P .any base0 a' te cap :=by
   simp only [Value.okWide,ht,Cell.okWide,Cell.ok] at hv
   exact hv.2.2
  obtain ⟨_,hs,row,cells,hsh,_⟩ :=hh
  have hb :=block_lt hsh
  obtain ⟨b,off,sp⟩ :=a'
  simp only at hs hb
  subst hs
  simp only [if_true] at hm
  subst hm
  have hc:∀ i,i < len → ∃ z:Int,w.cell? ⟨b,off + i,none⟩ = some (.int .i64 z) :=by
   intro i hi
   obtain ⟨k0,k2⟩ :=hx i (by omega)
   obtain ⟨z0,q0,_,_⟩ :=DataW.trod_int i0 k2
   simp at q0
   rw [q0,add_mk] at k0
   exact ⟨z0,k0⟩
  obtain ⟨l,rfl,hr⟩ :=lrel_ints len off hc
  refine ⟨nl l,l,off + l.length,Go.Abs.Seat.nl_no l,.inr rfl,fun M hM => ⟨b,off,_,rfl,hl,?_,hr _,trivial⟩⟩
  rw [ivs_len]
  show off + l.length ≤ if b < w.heap.size then M else 0
  rw [if_pos hb]
  exact hM
end Go.Proofs.YtcnidgafdonioaaGreat

/-! A bill as argument, opened. -/
namespace Go.Proofs.YtcnidgafdonioaaGreat
open Go.ChangeShapes Go.WideShapes Go.ChangeAt Go.RowKit Go.Joins Go.Deep
open Go.Abs (VRels VRel LRel ghOf noL Lives Live AV Own Pure Gh)
open Go.Abs.Seat (ivs nl ivs_len IL bv)
section
variable {H:Type} {enc:TypeId × Value → H} {P:Program} {w:World} {base:Nat} {spare:Nat → Bool} {held:Bool}
end
end Go.Proofs.YtcnidgafdonioaaGreat

/-! Lists of three numbers each as arguments, opened; pieces. -/
namespace Go.Proofs.YtcnidgafdonioaaGreat
open Go.ChangeShapes Go.WideShapes Go.ChangeAt Go.RowKit Go.Joins Go.Deep
open Go.Abs (VRels VRel LRel ghOf noL Lives Live AV Own Pure Gh)
open Go.Abs.Seat (ivs nl ivs_len IL lks lkA LkI LL lks_len lkA_no)
def IntsN (k:Nat) (cs:List Value):Prop :=∃ zs:List Int,zs.length = k ∧ cs = zs.map (Value.int .i64)
section
variable {H:Type} {enc:TypeId × Value → H} {P:Program} {w:World} {base:Nat} {spare:Nat → Bool} {held:Bool}
def TrI (enc:TypeId × Value → H) (P:Program) (w:World) (base:Nat) (spare:Nat → Bool) (held:Bool) (t:TypeId):Prop :=∀ n cs x,DataW.trod enc P w base spare held n t cs = some x → IntsN (P.cellsOf t) cs
theorem trI_int {t:TypeId} (ht:P.underlying t = some (.int .i64)) (c:P.cellsOf t = 1):TrI enc P w base spare held t :=fun n cs x h => by
 obtain ⟨z,e,_,_⟩ :=DataW.trod_int ht h
 exact ⟨[z],by rw [c];rfl,by simpa using e⟩
theorem trI_struct3 {t:TypeId} {f0 f1 f2:Field} (ht:P.underlying t = some (.struct #[f0,f1,f2])) (o0:f0.offset = 0) (o1:f1.offset = 1) (o2:f2.offset = 2) (c0:P.cellsOf f0.type = 1) (c1:P.cellsOf f1.type = 1) (c2:P.cellsOf f2.type = 1) (hc:P.cellsOf t = 3)
  (h0:TrI enc P w base spare held f0.type) (h1:TrI enc P w base spare held f1.type) (h2:TrI enc P w base spare held f2.type):TrI enc P w base spare held t :=fun n cs x h => by
 obtain ⟨xs,k,_,_,hl,hlen,hf⟩ :=DataW.trod_struct ht h
 rw [hc] at hl
 match xs,hlen,cs,hl with
 | [y0,y1,y2],_,[a,b,c],_ =>
  have g0 :=hf 0 f0 rfl
  have g1 :=hf 1 f1 rfl
  have g2 :=hf 2 f2 rfl
  rw [o0,c0] at g0
  rw [o1,c1] at g1
  rw [o2,c2] at g2
  obtain ⟨z0,l0,e0⟩ :=h0 _ _ _ g0
  obtain ⟨z1,l1,e1⟩ :=h1 _ _ _ g1
  obtain ⟨z2,l2,e2⟩ :=h2 _ _ _ g2
  rw [c0] at l0
  rw [c1] at l1
  rw [c2] at l2
  match z0,l0,z1,l1,z2,l2 with
  | [u0],_,[u1],_,[u2],_ =>
   simp at e0 e1 e2
   exact ⟨[u0,u1,u2],by rw [hc];rfl,by rw [e0,e1,e2];rfl⟩
end
theorem trip_arg {H:Type} {enc:TypeId × Value → H} {P:Program} {w:World} {base0:Nat} {t:TypeId} {fs:Array Field} {v:Value} {d:DataW H} {p:List MemPlace}
  (hs:P.underlying t = some (.struct fs)) (ce:P.cellsOf t = 3) (hE:TrI enc P w 0 (fun _ => true) true t)
  (hv:Value.okWide P w .any base0 t v) (h:DataW.Trod enc P w 0 (fun _ => true) true t v d p) :
  ∃ a b c:Int,v = .agg #[.int .i64 a,.int .i64 b,.int .i64 c] :=by
 obtain ⟨cs,rfl,hsz⟩ :=okWide_struct hs hv
 obtain ⟨fuel,hf⟩ :=h
 obtain ⟨zs,hz,e⟩ :=hE _ _ _ hf
 rw [ce] at hz
 match zs,hz with
 | [a,b,c],_ =>
  refine ⟨a,b,c,?_⟩
  have e:cs.toList = [.int .i64 a,.int .i64 b,.int .i64 c] :=by simpa [Value.cells] using e
  rw [← Array.toArray_toList (xs :=cs),e]
end Go.Proofs.YtcnidgafdonioaaGreat

/-! A rule as argument, opened; lists of pairs. -/
namespace Go.Proofs.YtcnidgafdonioaaGreat
open Go.ChangeShapes Go.WideShapes Go.ChangeAt Go.RowKit Go.Joins Go.Deep
open Go.Abs (VRels VRel LRel ghOf noL Lives Live AV Own Pure Gh)
open Go.Abs.Seat (ivs nl ivs_len IL rv PQ pv)
section
variable {H:Type} {enc:TypeId × Value → H} {P:Program} {w:World} {base:Nat} {spare:Nat → Bool} {held:Bool}
end
end Go.Proofs.YtcnidgafdonioaaGreat

/-! A calendar, a moon and a list of feasts as arguments, opened. -/
namespace Go.Proofs.YtcnidgafdonioaaGreat
open Go.ChangeShapes Go.WideShapes Go.ChangeAt Go.RowKit Go.Joins Go.Deep
open Go.Abs (VRels VRel LRel ghOf noL Lives Live AV Own Pure Gh)
open Go.Abs.Seat (ivs nl ivs_len IL Ft fts ftL FL fts_no)
section
variable {H:Type} {enc:TypeId × Value → H} {P:Program} {w:World} {base:Nat} {spare:Nat → Bool} {held:Bool}
theorem trod_feast {t:TypeId} {f0 f1 f2 f3:Field} (ht:P.underlying t = some (.struct #[f0,f1,f2,f3])) (o0:f0.offset = 0) (o1:f1.offset = 1) (o2:f2.offset = 2) (o3:f3.offset = 3) (c0:P.cellsOf f0.type = 1) (c1:P.cellsOf f1.type = 1) (c2:P.cellsOf f2.type = 1) (c3:P.cellsOf f3.type = 1) (hc:P.cellsOf t = 4)
  (i0:P.underlying f0.type = some .bool) (i1:P.underlying f1.type = some (.int .i64)) (i2:P.underlying f2.type = some (.int .i64)) (i3:P.underlying f3.type = some (.int .i64)) {n:Nat} {cs:List Value} {x:DataW H × List MemPlace}
  (h:DataW.trod enc P w base spare held n t cs = some x):∃ (b:Bool) (z1 z2 z3:Int),cs = [.bool b,.int .i64 z1,.int .i64 z2,.int .i64 z3] :=by
 obtain ⟨xs,k,_,_,hl,hlen,hf⟩ :=DataW.trod_struct ht h
 rw [hc] at hl
 match xs,hlen,cs,hl with
 | [y0,y1,y2,y3],_,[a,b,c,d],_ =>
  have g0 :=hf 0 f0 rfl
  have g1 :=hf 1 f1 rfl
  have g2 :=hf 2 f2 rfl
  have g3 :=hf 3 f3 rfl
  rw [o0,c0] at g0
  rw [o1,c1] at g1
  rw [o2,c2] at g2
  rw [o3,c3] at g3
  obtain ⟨u0,e0,_,_⟩ :=DataW.trod_bool i0 g0
  obtain ⟨u1,e1,_,_⟩ :=DataW.trod_int i1 g1
  obtain ⟨u2,e2,_,_⟩ :=DataW.trod_int i2 g2
  obtain ⟨u3,e3,_,_⟩ :=DataW.trod_int i3 g3
  simp at e0 e1 e2 e3
  exact ⟨u0,u1,u2,u3,by rw [e0,e1,e2,e3]⟩
theorem lrel_fts {b:Nat}:∀ (n off:Nat),(∀ i,i < n → ∃ (u:Bool) (z1 z2 z3:Int),w.cell? ⟨b,off + i * 4,none⟩ = some (.bool u) ∧ w.cell? ⟨b,off + i * 4 + 1,none⟩ = some (.int .i64 z1) ∧ w.cell? ⟨b,off + i * 4 + 2,none⟩ = some (.int .i64 z2) ∧ w.cell? ⟨b,off + i * 4 + 3,none⟩ = some (.int .i64 z3)) →
  ∃ l:List Ft,l.length = n ∧ ∀ g:Gh,LRel g w (fts l) b off
 | 0,_,_ => ⟨[],rfl,fun _ => trivial⟩
 |n + 1,off,h => by
  obtain ⟨u,z1,z2,z3,h0,h1,h2,h3⟩ :=h 0 (by omega)
  obtain ⟨l,hl,hr⟩ :=lrel_fts n (off + 4) fun i hi => by
   obtain ⟨v,y1,y2,y3,k0,k1,k2,k3⟩ :=h (i + 1) (by omega)
   refine ⟨v,y1,y2,y3,?_,?_,?_,?_⟩
   ·rw [show off + 4 + i * 4 = off + (i + 1) * 4 by omega];exact k0
   ·rw [show off + 4 + i * 4 + 1 = off + (i + 1) * 4 + 1 by omega];exact k1
   ·rw [show off + 4 + i * 4 + 2 = off + (i + 1) * 4 + 2 by omega];exact k2
   ·rw [show off + 4 + i * 4 + 3 = off + (i + 1) * 4 + 3 by omega];exact k3
  exact ⟨(u,z1,z2,z3) :: l,by simp [hl],fun g => ⟨⟨_,by simpa using h0,rfl⟩,⟨_,by simpa using h1,rfl⟩,⟨_,by simpa using h2,rfl⟩,⟨_,by simpa using h3,rfl⟩,hr g⟩⟩
end
theorem fts_len:∀ l:List Ft,(fts l).length = l.length * 4
 | [] => rfl
 | _ :: r => by simp only [fts,List.length_cons,fts_len r];omega
theorem feasts_arg {H:Type} {enc:TypeId × Value → H} {P:Program} {w:World} {base0:Nat} {ts te:TypeId} {v:Value} {d:DataW H} {p:List MemPlace} {f0 f1 f2 f3:Field}
  (ht:P.underlying ts = some (.slice te)) (hte:P.underlying te = some (.struct #[f0,f1,f2,f3])) (o0:f0.offset = 0) (o1:f1.offset = 1) (o2:f2.offset = 2) (o3:f3.offset = 3) (c0:P.cellsOf f0.type = 1) (c1:P.cellsOf f1.type = 1) (c2:P.cellsOf f2.type = 1) (c3:P.cellsOf f3.type = 1) (ce:P.cellsOf te = 4)
  (i0:P.underlying f0.type = some .bool) (i1:P.underlying f1.type = some (.int .i64)) (i2:P.underlying f2.type = some (.int .i64)) (i3:P.underlying f3.type = some (.int .i64))
  (hv:Value.okWide P w .any base0 ts v) (h:DataW.Trod enc P w 0 (fun _ => true) true ts v d p) :
  ∃ (x:AV) (L:List Ft) (N:Nat),Live noL x ∧ FL x L ∧ ∀ M,N ≤ M → VRel (ghOf (fun _ => M) w) w x v :=by
 obtain ⟨a,len,cap,rfl⟩ :=okWide_slice ht hv
 obtain ⟨fuel,hf⟩ :=h
 rcases open_slice ht hf with ⟨h1,_⟩ | ⟨a',len',cap',m,n,D,Pl,h1,_,hl,_,hm,_,hx⟩
 ·have h1:a = none ∧ len = 0 ∧ cap = 0 :=by simpa [Value.cells] using h1
  obtain ⟨rfl,rfl,rfl⟩ :=h1
  exact ⟨.nils,[],0,trivial,.inl ⟨rfl,rfl⟩,fun _ _ => rfl⟩
 ·have e1:a = some a' ∧ len = len' ∧ cap = cap' :=by simpa [Value.cells] using h1
  obtain ⟨rfl,rfl,rfl⟩ :=e1
  have hh:w.has P .any base0 a' te cap :=by
   simp only [Value.okWide,ht,Cell.okWide,Cell.ok] at hv
   exact hv.2.2
  obtain ⟨_,hs,row,cells,hsh,_⟩ :=hh
  have hb :=block_lt hsh
  obtain ⟨b,off,sp⟩ :=a'
  simp only at hs hb
  subst hs
  simp only [if_true] at hm
  subst hm
  have hc:∀ i,i < len → ∃ (u:Bool) (z1 z2 z3:Int),w.cell? ⟨b,off + i * 4,none⟩ = some (.bool u) ∧ w.cell? ⟨b,off + i * 4 + 1,none⟩ = some (.int .i64 z1) ∧ w.cell? ⟨b,off + i * 4 + 2,none⟩ = some (.int .i64 z2) ∧ w.cell? ⟨b,off + i * 4 + 3,none⟩ = some (.int .i64 z3) :=by
   intro i hi
   obtain ⟨cs',k0,k1⟩ :=hx i (by omega)
   rw [ce] at k0
   obtain ⟨_,hlen,hcell⟩ :=World.cells?_some k0
   obtain ⟨u,z1,z2,z3,rfl⟩ :=trod_feast hte o0 o1 o2 o3 c0 c1 c2 c3 ce i0 i1 i2 i3 k1
   have q0 :=hcell 0 (by omega)
   have q1 :=hcell 1 (by omega)
   have q2 :=hcell 2 (by omega)
   have q3 :=hcell 3 (by omega)
   rw [add_add,add_mk] at q0 q1 q2 q3
   exact ⟨u,z1,z2,z3,by simpa using q0,by simpa [Nat.add_assoc] using q1,by simpa [Nat.add_assoc] using q2,by simpa [Nat.add_assoc] using q3⟩
  obtain ⟨l,rfl,hr⟩ :=lrel_fts len off hc
  refine ⟨ftL l,l,off + l.length * 4,⟨fts_no l,fun _ h => nomatch h⟩,.inr rfl,fun M hM => ⟨b,off,_,rfl,hl,?_,hr _,trivial⟩⟩
  rw [fts_len]
  show off + l.length * 4 ≤ if b < w.heap.size then M else 0
  rw [if_pos hb]
  exact hM
theorem cal_arg {H:Type} {enc:TypeId × Value → H} {P:Program} {w:World} {base0:Nat} {t te u0:TypeId} {f0 f1:Field} {v:Value} {d:DataW H} {p:List MemPlace}
  (hs:P.underlying t = some (.struct #[f0,f1])) (hone:oneCellFields P #[f0,f1] = true) (hC:P.cellsOf t = 2) (hct:P.cellTypes P.depth t = some [u0,f1.type])
  (i0:P.underlying f0.type = some (.int .i64)) (h1t:P.underlying f1.type = some (.slice te)) (ce:P.cellsOf te = 1) (ie:P.underlying te = some (.int .i64))
  (hv:Value.okWide P w .any base0 t v) (h:DataW.Trod enc P w 0 (fun _ => true) true t v d p) :
  ∃ (a:Int) (x:AV) (l:List Int) (N:Nat),Live noL x ∧ IL x l ∧ ∀ K,N ≤ K → VRel (ghOf (fun _ => K) w) w (.agg [.int .i64 a,x]) v :=by
 have hv2 :=hv
 obtain ⟨cs,rfl,hsz⟩ :=okWide_struct hs hv
 rw [hC] at hsz
 obtain ⟨l⟩ :=cs
 match l,hsz with
 | [c0,c1],_ =>
 obtain ⟨fuel,hf⟩ :=h
 obtain ⟨xs,n,_,_,_,hlen,hfs⟩ :=DataW.trod_struct hs hf
 match xs,hlen with
 | [y0,y1],_ =>
 have g0 :=hfs 0 f0 rfl
 have g1 :=hfs 1 f1 rfl
 obtain ⟨o0,k0⟩ :=hone_of hone 0 f0 rfl
 obtain ⟨o1,k1⟩ :=hone_of hone 1 f1 rfl
 have G0:DataW.trod enc P w 0 (fun _ => true) true n f0.type [c0] = some y0 :=by simpa [Value.cells,o0,k0] using g0
 have G1:DataW.trod enc P w 0 (fun _ => true) true n f1.type [c1] = some y1 :=by simpa [Value.cells,o1,k1] using g1
 obtain ⟨a,e0,_,_⟩ :=DataW.trod_int i0 G0
 simp at e0
 subst e0
 simp only [Value.okWide,hs] at hv2
 obtain ⟨cs2,ecs,_,ts,ets,_,hrow⟩ :=hv2
 cases ecs
 rw [hct] at ets
 cases ets
 obtain ⟨u,hu,hcell1⟩ :=hrow 1 c1 rfl
 obtain rfl:u = f1.type :=by simpa using hu.symm
 have hv1:Value.okWide P w .any base0 f1.type c1 :=by simp only [Value.okWide,h1t];exact hcell1
 obtain ⟨a1,len1,cap1,rfl⟩ :=okWide_slice h1t hv1
 obtain ⟨y,M,N1,l1,il1,R1⟩ :=ints_arg (enc :=enc) (d :=y1.1) (p :=y1.2) h1t ce ie hv1 ⟨n,by simpa [Value.cells] using G1⟩
 exact ⟨a,y,M,N1,l1,il1,fun K hK => ⟨_,rfl,_,_,rfl,rfl,_,_,rfl,R1 K (by omega),rfl⟩⟩
end Go.Proofs.YtcnidgafdonioaaGreat

