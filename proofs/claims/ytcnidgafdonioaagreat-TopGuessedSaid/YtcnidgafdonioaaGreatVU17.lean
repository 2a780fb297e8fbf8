/-
  What every law of the seat hands in alike: the listed tables, the last step of a row.
-/
import Derived.ProofKit
import Derived.OpenShut
import Derived.LaidMore
import Derived.Lay
import Derived.Below
import Derived.ChangeSame
import Derived.SevenTiedAt
import Derived.Stop.Joined
import Derived.Lib.SmallJoins
import Derived.Test.YtcnidgafdonioaaGreatRows
import Derived.Test.YtcnidgafdonioaaGreatVU16
import Derived.Test.YtcnidgafdonioaaGreatVU5
import Derived.WideKeyArgs
import Derived.Carry
import Derived.Test.YtcnidgafdonioaaGreatVU7
import Derived.Deep.SlicePairs
import Derived.Test.YtcnidgafdonioaaGreatVU10
import Derived.Deep.Slices
/-! What every law of the seat hands in alike: the listed tables, the last step of a row. -/
namespace Go.Proofs.YtcnidgafdonioaaGreat
open Go.ChangeShapes Go.WideShapes Go.ChangeAt Go.RowKit Go.Joins
open Go.Abs (VRels VRel ghOf noL Lives Live AV Own Pure)
theorem ownKnobNone:ownKnob Tryz.prog.godebug = none :=by kernel_rfl
noncomputable def listed:List (String × DataW Unit) :=[]
section
variable {H:Type} {enc:TypeId × Value → H} {P:Program}
theorem post_beside {f:Func} {s:ChangeSpec} {apart fresh handsOn again:Bool} {W W':World} {args:Array Value} {v:Value} {ds gs:List (DataW H)} {before pa pv:List MemPlace}
  (hW:DataW.Whole enc P f.params.toList s.vars apart W args.toList ds gs before)
  (hres:∀ (b:Nat) (sp:Nat → Bool) (hd:Bool),DataW.TrodAll enc P W' b sp hd f.resultTypes.toList (v.resultList f.resultTypes.size) (s.fn H (ds ++ gs)).results [])
  (hargs:∀ sp:Nat → Bool,(∀ p ∈ before,sp p.block = true) → DataW.TrodAll enc P W' 0 sp true f.params.toList args.toList (s.fn H (ds ++ gs)).args pa)
  (hvars:∀ sp:Nat → Bool,(∀ p ∈ before,sp p.block = true) → DataW.TrodVars enc P W' sp s.vars (s.fn H (ds ++ gs)).vars pv)
  (hps:before = pa ++ pv) (hb:Below W.heap.size W W')
  (hok:∀ (j:Nat) (t:TypeId) (r:Value),f.resultTypes[j]? = some t → (v.resultList f.resultTypes.size)[j]? = some r → Value.okWide P W' .any 0 t r) :
  s.post enc P f apart fresh handsOn again W args v W' :=by
 have hin:∀ p ∈ before,p.block < W.heap.size :=fun p hp => hW.lt p hp
 have hsp:∀ p ∈ before,(fun b => decide (b < W.heap.size)) p.block = true :=fun p hp => by simpa using hin p hp
 refine ⟨ds,gs,before,[],pa,pv,hW,hres _ _ _,hargs _ hsp,hvars _ hsp,World.keptBut_mono (fun p hp => ⟨hp,?_⟩) (hb.frame (· ∈ before)),fun _ => ?_⟩
 ·rw [hps,List.mem_append] at hp
  exact Or.inr hp
 ·obtain ⟨_,_,_,_,_,hz,hn⟩ :=hW
  refine ⟨hok,_,_,([] ++ pa) ++ pv,⟨[] ++ pa,pv,trodAll_append (hargs _ (fun _ _ => rfl)) (hres _ _ _),hvars _ (fun _ _ => rfl),rfl,?_,?_⟩,?_⟩
  ·intro b off hp
   have hm:MemPlace.cell b off ∈ before :=by rw [hps];simpa using hp
   rw [hb.frozen (hin _ hm)]
   exact hz b off hm
  ·intro ha
   have :=hn ha
   rw [hps] at this
   simpa using this
  ·intro p hp _
   rw [hps]
   simpa using hp
end
end Go.Proofs.YtcnidgafdonioaaGreat

/-! The last step of a law: it answers true, and all that the caller has is as it was. -/
namespace Go.Proofs.YtcnidgafdonioaaGreat
open Go.ChangeShapes Go.WideShapes Go.ChangeAt Go.RowKit Go.Joins
open Go.Abs (VRels VRel ghOf noL Lives Live AV Own Pure)
theorem laidOutProg:laidOutB Tryz.prog = true :=by kernel_rfl
section
variable {H:Type} {enc:TypeId × Value → H} {P:Program}
theorem args_stay (hl:laidOutB P = true) {W W':World} (hb:Below W.heap.size W W') (sp:Nat → Bool):∀ {ts:List TypeId} {vs:List Value} {ds:List (DataW H)} {ps:List MemPlace},
  (ts.all fun t => P.readableRec t && decide (t < P.types.size)) = true → DataW.TrodAll enc P W 0 (fun _ => true) true ts vs ds ps → (∀ x ∈ ps,x.block < W.heap.size) → (∀ x ∈ ps,sp x.block = true) →
  DataW.TrodAll enc P W' 0 sp true ts vs ds ps
 | [],[],[],_,_,h,_,_ => h
 | [],[],_ :: _,_,_,h,_,_ => h.elim
 | [],_ :: _,_,_,_,h,_,_ => h.elim
 | _ :: _,[],_,_,_,h,_,_ => h.elim
 | _ :: _,_ :: _,[],_,_,h,_,_ => h.elim
 |t :: ts,v :: vs,d :: ds,ps,ht,h,hlt,hs => by
  obtain ⟨p,q,h1,h2,rfl⟩ :=h
  simp only [List.all_cons,Bool.and_eq_true,decide_eq_true_eq] at ht
  exact ⟨p,q,WideElems.Trod_stays hl ht.1.1 ht.1.2 h1 (fun x hx => hb.same (hlt x (List.mem_append_left _ hx))) (fun x hx => hs x (List.mem_append_left _ hx)),
   args_stay hl hb sp ht.2 h2 (fun x hx => hlt x (List.mem_append_right _ hx)) (fun x hx => hs x (List.mem_append_right _ hx)),rfl⟩
theorem law_post {f:Func} {s:ChangeSpec} {apart fresh handsOn again:Bool} {W W':World} {args:Array Value} {ds:List (DataW H)} {before:List MemPlace} {tb:TypeId}
  (hl:laidOutB P = true) (hts:(f.params.toList.all fun t => P.readableRec t && decide (t < P.types.size)) = true) (hr:f.resultTypes = #[tb]) (htb:P.underlying tb = some .bool) (hvars:s.vars = [])
  (hfn:s.fn H ds = { results :=[.lit (.bool true)],args :=ds }) (hW:DataW.Whole enc P f.params.toList s.vars apart W args.toList ds [] before) (hb:Below W.heap.size W W') :
  s.post enc P f apart fresh handsOn again W args (.bool true) W' :=by
 have hW' :=hW
 obtain ⟨p,q,hA,hV,rfl,_,_⟩ :=hW
 have hlt:∀ x ∈ p ++ q,x.block < W.heap.size :=fun x hx => hW'.lt x hx
 rw [hvars] at hV
 obtain ⟨_,rfl⟩ :=trodVars_none hV
 have e:s.fn H (ds ++ []) = { results :=[.lit (.bool true)],args :=ds } :=by rw [List.append_nil];exact hfn
 refine post_beside (pa :=p) (pv :=[]) hW' (fun b sp hd => ?_) (fun sp hsp => ?_) (fun sp _ => ?_) rfl hb ?_
 ·rw [e,hr]
  exact trodAll_mk1 (shut_bool htb _)
 ·rw [e]
  exact args_stay hl hb sp hts hA (fun x hx => hlt x (List.mem_append_left _ hx)) (fun x hx => hsp x (List.mem_append_left _ hx))
 ·rw [e,hvars]
  rfl
 ·exact ok_one hr rfl (okWide_bool_mk htb _)
end
end Go.Proofs.YtcnidgafdonioaaGreat

namespace Go.Proofs.YtcnidgafdonioaaGreat
open Go.ChangeShapes Go.WideShapes Go.ChangeAt Go.RowKit Go.Joins Go.Deep
open Go.Abs (VRels VRel LRel ghOf noL Lives Live AV Own Pure Gh)
open Go.Abs.Seat (pv flat flat_len)
theorem block_lt {w:World} {b:Nat} {x:TypeId × Nat} (h:w.shape? b = some x):b < w.heap.size :=by
 by_cases hb:b < w.heap.size
 ·exact hb
 ·have e:w.heap[b]? = none :=by simp;omega
  simp [World.shape?,e] at h
theorem add_mk (b off k:Nat):(⟨b,off,none⟩ : Addr).add k = ⟨b,off + k,none⟩ :=by
 unfold Addr.add
 split
 ·rename_i h;subst h;rfl
 ·rfl
end Go.Proofs.YtcnidgafdonioaaGreat
/-! Lists of numbers as arguments, opened; more arguments. -/
namespace Go.Proofs.YtcnidgafdonioaaGreat
open Go.ChangeShapes Go.WideShapes Go.ChangeAt Go.RowKit Go.Joins Go.Deep
open Go.Abs (VRels VRel LRel ghOf noL Lives Live AV Own Pure Gh)
open Go.Abs.Seat (ivs nl ivs_len IL)
section
variable {H:Type} {enc:TypeId × Value → H} {P:Program} {w:World} {base:Nat} {spare:Nat → Bool} {held:Bool}
end
theorem lrel_ints {w:World} {b:Nat}:∀ (n off:Nat),(∀ i,i < n → ∃ z:Int,w.cell? ⟨b,off + i,none⟩ = some (.int .i64 z)) →
  ∃ l:List Int,l.length = n ∧ ∀ g:Gh,LRel g w (ivs l) b off
 | 0,_,_ => ⟨[],rfl,fun _ => trivial⟩
 |n + 1,off,h => by
  obtain ⟨z,h0⟩ :=h 0 (by omega)
  obtain ⟨l,hl,hr⟩ :=lrel_ints n (off + 1) fun i hi => by
   obtain ⟨y,k⟩ :=h (i + 1) (by omega)
   exact ⟨y,by rw [show off + 1 + i = off + (i + 1) by omega];exact k⟩
  exact ⟨z :: l,by simp [hl],fun g => ⟨⟨_,by simpa using h0,rfl⟩,hr g⟩⟩
theorem ints_arg {H:Type} {enc:TypeId × Value → H} {P:Program} {w:World} {base0:Nat} {ts te:TypeId} {v:Value} {d:DataW H} {p:List MemPlace}
  (ht:P.underlying ts = some (.slice te)) (ce:P.cellsOf te = 1) (i0:P.underlying te = some (.int .i64))
  (hv:Value.okWide P w .any base0 ts v) (h:DataW.Trod enc P w 0 (fun _ => true) true ts v d p) :
  ∃ (x:AV) (l:List Int) (N:Nat),Live noL x ∧ IL x l ∧ ∀ M,N ≤ M → VRel (ghOf (fun _ => M) w) w x v :=by
 obtain ⟨a,len,cap,rfl⟩ :=okWide_slice ht hv
 obtain ⟨fuel,hf⟩ :=h
 rcases open_slice1 ht ce hf with ⟨h1,_⟩ | ⟨a',len',cap',m,n,V,D,Pl,h1,_,hl,_,hm,_,hx⟩
 ·have h1:a = none ∧ len = 0 ∧ cap = 0 :=by simpa [Value.cells] using h1
  obtain ⟨rfl,rfl,rfl⟩ :=h1
  exact ⟨.nils,[],0,trivial,.inl ⟨rfl,rfl⟩,fun _ _ => rfl⟩
 ·have e1:a = some a' ∧ len = len' ∧ cap = cap' :=by simpa [Value.cells] using h1
  obtain ⟨rfl,rfl,rfl⟩ :=e1
  have hh:w.has P .any base0 a' te cap :=by
   simp only [Value.okWide,ht,Cell.okWide,Cell.ok] at hv
   exact hv.2.2
  obtain ⟨_,hs,row,cells,hsh,_⟩ :=hh
  have hb :=block_lt hsh
  obtain ⟨b,off,sp⟩ :=a'
  simp only at hs hb
  subst hs
  simp only [if_true] at hm
  subst hm
  have hc:∀ i,i < len → ∃ z:Int,w.cell? ⟨b,off + i,none⟩ = some (.int .i64 z) :=by
   intro i hi
   obtain ⟨k0,k2⟩ :=hx i (by omega)
   obtain ⟨z0,q0,_,_⟩ :=DataW.trod_int i0 k2
   simp at q0
   rw [q0,add_mk] at k0
   exact ⟨z0,k0⟩
  obtain ⟨l,rfl,hr⟩ :=lrel_ints len off hc
  refine ⟨nl l,l,off + l.length,Go.Abs.Seat.nl_no l,.inr rfl,fun M hM => ⟨b,off,_,rfl,hl,?_,hr _,trivial⟩⟩
  rw [ivs_len]
  show off + l.length ≤ if b < w.heap.size then M else 0
  rw [if_pos hb]
  exact hM
end Go.Proofs.YtcnidgafdonioaaGreat

/-! A bill as argument, opened. -/
namespace Go.Proofs.YtcnidgafdonioaaGreat
open Go.ChangeShapes Go.WideShapes Go.ChangeAt Go.RowKit Go.Joins Go.Deep
open Go.Abs (VRels VRel LRel ghOf noL Lives Live AV Own Pure Gh)
open Go.Abs.Seat (ivs nl ivs_len IL bv)
section
variable {H:Type} {enc:TypeId × Value → H} {P:Program} {w:World} {base:Nat} {spare:Nat → Bool} {held:Bool}
end
end Go.Proofs.YtcnidgafdonioaaGreat

/-! Lists of three numbers each as arguments, opened; pieces. -/
namespace Go.Proofs.YtcnidgafdonioaaGreat
open Go.ChangeShapes Go.WideShapes Go.ChangeAt Go.RowKit Go.Joins Go.Deep
open Go.Abs (VRels VRel LRel ghOf noL Lives Live AV Own Pure Gh)
open Go.Abs.Seat (ivs nl ivs_len IL lks lkA LkI LL lks_len lkA_no)
def IntsN (k:Nat) (cs:List Value):Prop :=∃ zs:List Int,zs.length = k ∧ cs = zs.map (Value.int .i64)
section
variable {H:Type} {enc:TypeId × Value → H} {P:Program} {w:World} {base:Nat} {spare:Nat → Bool} {held:Bool}
def TrI (enc:TypeId × Value → H) (P:Program) (w:World) (base:Nat) (spare:Nat → Bool) (held:Bool) (t:TypeId):Prop :=∀ n cs x,DataW.trod enc P w base spare held n t cs = some x → IntsN (P.cellsOf t) cs
theorem trI_int {t:TypeId} (ht:P.underlying t = some (.int .i64)) (c:P.cellsOf t = 1):TrI enc P w base spare held t :=fun n cs x h => by
 obtain ⟨z,e,_,_⟩ :=DataW.trod_int ht h
 exact ⟨[z],by rw [c];rfl,by simpa using e⟩
theorem trI_struct2 {t:TypeId} {f0 f1:Field} (ht:P.underlying t = some (.struct #[f0,f1])) (o0:f0.offset = 0) (o1:f1.offset = P.cellsOf f0.type) (hc:P.cellsOf t = P.cellsOf f0.type + P.cellsOf f1.type)
  (h0:TrI enc P w base spare held f0.type) (h1:TrI enc P w base spare held f1.type):TrI enc P w base spare held t :=fun n cs x h => by
 obtain ⟨xs,k,_,_,hl,hlen,hf⟩ :=DataW.trod_struct ht h
 match xs,hlen with
 | [y0,y1],_ =>
  have g0 :=hf 0 f0 rfl
  have g1 :=hf 1 f1 rfl
  rw [o0,List.drop_zero] at g0
  rw [o1] at g1
  obtain ⟨z0,l0,e0⟩ :=h0 _ _ _ g0
  obtain ⟨z1,l1,e1⟩ :=h1 _ _ _ g1
  refine ⟨z0 ++ z1,by rw [List.length_append,l0,l1,hc],?_⟩
  rw [List.take_of_length_le (by rw [List.length_drop];omega)] at e1
  rw [List.map_append,← e0,← e1,List.take_append_drop]
theorem lrel_trips {b:Nat}:∀ (n off:Nat),(∀ i,i < n → ∃ z0 z1 z2:Int,w.cell? ⟨b,off + i * 3,none⟩ = some (.int .i64 z0) ∧ w.cell? ⟨b,off + i * 3 + 1,none⟩ = some (.int .i64 z1) ∧ w.cell? ⟨b,off + i * 3 + 2,none⟩ = some (.int .i64 z2)) →
  ∃ l:List LkI,l.length = n ∧ ∀ g:Gh,LRel g w (lks l) b off
 | 0,_,_ => ⟨[],rfl,fun _ => trivial⟩
 |n + 1,off,h => by
  obtain ⟨z0,z1,z2,h0,h1,h2⟩ :=h 0 (by omega)
  obtain ⟨l,hl,hr⟩ :=lrel_trips n (off + 3) fun i hi => by
   obtain ⟨y0,y1,y2,k0,k1,k2⟩ :=h (i + 1) (by omega)
   refine ⟨y0,y1,y2,?_,?_,?_⟩
   ·rw [show off + 3 + i * 3 = off + (i + 1) * 3 by omega];exact k0
   ·rw [show off + 3 + i * 3 + 1 = off + (i + 1) * 3 + 1 by omega];exact k1
   ·rw [show off + 3 + i * 3 + 2 = off + (i + 1) * 3 + 2 by omega];exact k2
  exact ⟨(z0,z1,z2) :: l,by simp [hl],fun g => ⟨⟨_,by simpa using h0,rfl⟩,⟨_,by simpa using h1,rfl⟩,⟨_,by simpa using h2,rfl⟩,hr g⟩⟩
end
theorem trips_arg {H:Type} {enc:TypeId × Value → H} {P:Program} {w:World} {base0:Nat} {ts te:TypeId} {v:Value} {d:DataW H} {p:List MemPlace}
  (ht:P.underlying ts = some (.slice te)) (ce:P.cellsOf te = 3) (hE:TrI enc P w 0 (fun _ => true) true te)
  (hv:Value.okWide P w .any base0 ts v) (h:DataW.Trod enc P w 0 (fun _ => true) true ts v d p) :
  ∃ (x:AV) (L:List LkI) (N:Nat),Live noL x ∧ LL x L ∧ ∀ M,N ≤ M → VRel (ghOf (fun _ => M) w) w x v :=by
 obtain ⟨a,len,cap,rfl⟩ :=okWide_slice ht hv
 obtain ⟨fuel,hf⟩ :=h
 rcases open_slice ht hf with ⟨h1,_⟩ | ⟨a',len',cap',m,n,D,Pl,h1,_,hl,_,hm,_,hx⟩
 ·have h1:a = none ∧ len = 0 ∧ cap = 0 :=by simpa [Value.cells] using h1
  obtain ⟨rfl,rfl,rfl⟩ :=h1
  exact ⟨.nils,[],0,trivial,.inl ⟨rfl,rfl⟩,fun _ _ => rfl⟩
 ·have e1:a = some a' ∧ len = len' ∧ cap = cap' :=by simpa [Value.cells] using h1
  obtain ⟨rfl,rfl,rfl⟩ :=e1
  have hh:w.has P .any base0 a' te cap :=by
   simp only [Value.okWide,ht,Cell.okWide,Cell.ok] at hv
   exact hv.2.2
  obtain ⟨_,hs,row,cells,hsh,_⟩ :=hh
  have hb :=block_lt hsh
  obtain ⟨b,off,sp⟩ :=a'
  simp only at hs hb
  subst hs
  simp only [if_true] at hm
  subst hm
  have hc:∀ i,i < len → ∃ z0 z1 z2:Int,w.cell? ⟨b,off + i * 3,none⟩ = some (.int .i64 z0) ∧ w.cell? ⟨b,off + i * 3 + 1,none⟩ = some (.int .i64 z1) ∧ w.cell? ⟨b,off + i * 3 + 2,none⟩ = some (.int .i64 z2) :=by
   intro i hi
   obtain ⟨cs',k0,k1⟩ :=hx i (by omega)
   rw [ce] at k0
   obtain ⟨_,hlen,hcell⟩ :=World.cells?_some k0
   obtain ⟨zs,hz,rfl⟩ :=hE _ _ _ k1
   rw [ce] at hz
   match zs,hz with
   | [z0,z1,z2],_ =>
    have q0 :=hcell 0 (by omega)
    have q1 :=hcell 1 (by omega)
    have q2 :=hcell 2 (by omega)
    rw [add_add,add_mk] at q0 q1 q2
    exact ⟨z0,z1,z2,by simpa using q0,by simpa [Nat.add_assoc] using q1,by simpa [Nat.add_assoc] using q2⟩
  obtain ⟨l,rfl,hr⟩ :=lrel_trips len off hc
  refine ⟨lkA l,l,off + l.length * 3,lkA_no l,.inr rfl,fun M hM => ⟨b,off,_,rfl,hl,?_,hr _,trivial⟩⟩
  rw [lks_len]
  show off + l.length * 3 ≤ if b < w.heap.size then M else 0
  rw [if_pos hb]
  exact hM
theorem piece_arg {H:Type} {enc:TypeId × Value → H} {P:Program} {w:World} {base0:Nat} {t te ti:TypeId} {f0 f1:Field} {v:Value} {d:DataW H} {p:List MemPlace}
  (hs:P.underlying t = some (.struct #[f0,f1])) (hone:oneCellFields P #[f0,f1] = true) (hC:P.cellsOf t = 2) (hct:P.cellTypes P.depth t = some [f0.type,f1.type])
  (h0t:P.underlying f0.type = some (.slice te)) (ce:P.cellsOf te = 3) (hE:TrI enc P w 0 (fun _ => true) true te)
  (h1t:P.underlying f1.type = some (.slice ti)) (ci:P.cellsOf ti = 1) (ii:P.underlying ti = some (.int .i64))
  (hv:Value.okWide P w .any base0 t v) (h:DataW.Trod enc P w 0 (fun _ => true) true t v d p) :
  ∃ (x y:AV) (L:List LkI) (M:List Int) (N:Nat),Live noL x ∧ Live noL y ∧ LL x L ∧ IL y M ∧ ∀ K,N ≤ K → VRel (ghOf (fun _ => K) w) w (.agg [x,y]) v :=by
 have hv2 :=hv
 obtain ⟨cs,rfl,hsz⟩ :=okWide_struct hs hv
 rw [hC] at hsz
 obtain ⟨l⟩ :=cs
 match l,hsz with
 | [c0,c1],_ =>
 obtain ⟨fuel,hf⟩ :=h
 obtain ⟨xs,n,_,_,_,hlen,hfs⟩ :=DataW.trod_struct hs hf
 match xs,hlen with
 | [y0,y1],_ =>
 have g0 :=hfs 0 f0 rfl
 have g1 :=hfs 1 f1 rfl
 obtain ⟨o0,k0⟩ :=hone_of hone 0 f0 rfl
 obtain ⟨o1,k1⟩ :=hone_of hone 1 f1 rfl
 have G0:DataW.trod enc P w 0 (fun _ => true) true n f0.type [c0] = some y0 :=by simpa [Value.cells,o0,k0] using g0
 have G1:DataW.trod enc P w 0 (fun _ => true) true n f1.type [c1] = some y1 :=by simpa [Value.cells,o1,k1] using g1
 simp only [Value.okWide,hs] at hv2
 obtain ⟨cs2,ecs,_,ts,ets,_,hrow⟩ :=hv2
 cases ecs
 rw [hct] at ets
 cases ets
 obtain ⟨u,hu,hcell0⟩ :=hrow 0 c0 rfl
 obtain rfl:u = f0.type :=by simpa using hu.symm
 obtain ⟨u,hu,hcell1⟩ :=hrow 1 c1 rfl
 obtain rfl:u = f1.type :=by simpa using hu.symm
 have hv0:Value.okWide P w .any base0 f0.type c0 :=by simp only [Value.okWide,h0t];exact hcell0
 have hv1:Value.okWide P w .any base0 f1.type c1 :=by simp only [Value.okWide,h1t];exact hcell1
 obtain ⟨a0,len0,cap0,rfl⟩ :=okWide_slice h0t hv0
 obtain ⟨a1,len1,cap1,rfl⟩ :=okWide_slice h1t hv1
 obtain ⟨x,L,N0,l0,il0,R0⟩ :=trips_arg (enc :=enc) (d :=y0.1) (p :=y0.2) h0t ce hE hv0 ⟨n,by simpa [Value.cells] using G0⟩
 obtain ⟨y,M,N1,l1,il1,R1⟩ :=ints_arg (enc :=enc) (d :=y1.1) (p :=y1.2) h1t ci ii hv1 ⟨n,by simpa [Value.cells] using G1⟩
 exact ⟨x,y,L,M,N0 + N1,l0,l1,il0,il1,fun K hK => ⟨_,rfl,_,_,rfl,R0 K (by omega),_,_,rfl,R1 K (by omega),rfl⟩⟩
end Go.Proofs.YtcnidgafdonioaaGreat

