/-
  What every law of the seat hands in alike: the listed tables, the last step of a row.
-/
import Derived.Test.YtnimgfkggbnjoaaGreatDoorTie
import Derived.Test.YtnimgfkggbnjoaaGreatDoorCards
import Derived.ProofKit
import Derived.OpenShut
import Derived.LaidMore
import Derived.Lay
import Derived.Below
import Derived.ChangeSame
import Derived.SevenTiedAt
import Derived.Stop.Joined
import Derived.Lib.SmallJoins
import Derived.Test.YtnimgfkggbnjoaaGreatDoorVU16
import Derived.Test.YtnimgfkggbnjoaaGreatDoorVU5
import Derived.WideKeyArgs
import Derived.Carry
import Derived.Test.YtnimgfkggbnjoaaGreatDoorVU7
import Derived.Deep.SlicePairs
import Derived.Test.YtnimgfkggbnjoaaGreatDoorVU12
import Derived.Test.YtnimgfkggbnjoaaGreatDoorVU14
import Derived.Deep.Slices
/-! What every law of the seat hands in alike: the listed tables, the last step of a row. -/
namespace Go.Proofs.YtnimgfkggbnjoaaGreatDoor
open Go.ChangeShapes Go.WideShapes Go.ChangeAt Go.RowKit Go.Joins
open Go.Abs (VRels VRel ghOf noL Lives Live AV Own Pure)
theorem ownKnobNone:ownKnob Tryz.prog.godebug = none :=by kernel_rfl
noncomputable def listed:List (String × DataW Unit) :=[("math/bits.deBruijn32tab", Rows.laid_math_bits_deBruijn32tab),("math/bits.deBruijn64tab", Rows.laid_math_bits_deBruijn64tab),("internal/strconv.uint64pow10", Rows.laid_internal_strconv_uint64pow10),("unicode/utf8.acceptRanges", Rows.laid_unicode_utf8_acceptRanges),("unicode/utf8.first", Rows.laid_unicode_utf8_first)]
theorem listed_met (os:Os) (args:Array Value):laidMetH Tryz.prog listed ((World.laidAll Tryz.prog os listed).forCall (fun _ _ => 0) ⟨#[],args,[]⟩).memory :=by
 rw [MakeChecks.laidMetH_plain _ _ _ (by kernel_rfl)]
 exact laidMet_laidAll _ (by kernel_rfl) (by kernel_rfl)
section
variable {H:Type} {enc:TypeId × Value → H} {P:Program}
theorem post_beside {f:Func} {s:ChangeSpec} {apart fresh handsOn again:Bool} {W W':World} {args:Array Value} {v:Value} {ds gs:List (DataW H)} {before pa pv:List MemPlace}
  (hW:DataW.Whole enc P f.params.toList s.vars apart W args.toList ds gs before)
  (hres:∀ (b:Nat) (sp:Nat → Bool) (hd:Bool),DataW.TrodAll enc P W' b sp hd f.resultTypes.toList (v.resultList f.resultTypes.size) (s.fn H (ds ++ gs)).results [])
  (hargs:∀ sp:Nat → Bool,(∀ p ∈ before,sp p.block = true) → DataW.TrodAll enc P W' 0 sp true f.params.toList args.toList (s.fn H (ds ++ gs)).args pa)
  (hvars:∀ sp:Nat → Bool,(∀ p ∈ before,sp p.block = true) → DataW.TrodVars enc P W' sp s.vars (s.fn H (ds ++ gs)).vars pv)
  (hps:before = pa ++ pv) (hb:Below W.heap.size W W')
  (hok:∀ (j:Nat) (t:TypeId) (r:Value),f.resultTypes[j]? = some t → (v.resultList f.resultTypes.size)[j]? = some r → Value.okWide P W' .any 0 t r) :
  s.post enc P f apart fresh handsOn again W args v W' :=by
 have hin:∀ p ∈ before,p.block < W.heap.size :=fun p hp => hW.lt p hp
 have hsp:∀ p ∈ before,(fun b => decide (b < W.heap.size)) p.block = true :=fun p hp => by simpa using hin p hp
 refine ⟨ds,gs,before,[],pa,pv,hW,hres _ _ _,hargs _ hsp,hvars _ hsp,World.keptBut_mono (fun p hp => ⟨hp,?_⟩) (hb.frame (· ∈ before)),fun _ => ?_⟩
 ·rw [hps,List.mem_append] at hp
  exact Or.inr hp
 ·obtain ⟨_,_,_,_,_,hz,hn⟩ :=hW
  refine ⟨hok,_,_,([] ++ pa) ++ pv,⟨[] ++ pa,pv,trodAll_append (hargs _ (fun _ _ => rfl)) (hres _ _ _),hvars _ (fun _ _ => rfl),rfl,?_,?_⟩,?_⟩
  ·intro b off hp
   have hm:MemPlace.cell b off ∈ before :=by rw [hps];simpa using hp
   rw [hb.frozen (hin _ hm)]
   exact hz b off hm
  ·intro ha
   have :=hn ha
   rw [hps] at this
   simpa using this
  ·intro p hp _
   rw [hps]
   simpa using hp
end
end Go.Proofs.YtnimgfkggbnjoaaGreatDoor

/-! The last step of a law: it answers true, and all that the caller has is as it was. -/
namespace Go.Proofs.YtnimgfkggbnjoaaGreatDoor
open Go.ChangeShapes Go.WideShapes Go.ChangeAt Go.RowKit Go.Joins
open Go.Abs (VRels VRel ghOf noL Lives Live AV Own Pure)
theorem laidOutProg:laidOutB Tryz.prog = true :=by kernel_rfl
section
variable {H:Type} {enc:TypeId × Value → H} {P:Program}
theorem args_stay (hl:laidOutB P = true) {W W':World} (hb:Below W.heap.size W W') (sp:Nat → Bool):∀ {ts:List TypeId} {vs:List Value} {ds:List (DataW H)} {ps:List MemPlace},
  (ts.all fun t => P.readableRec t && decide (t < P.types.size)) = true → DataW.TrodAll enc P W 0 (fun _ => true) true ts vs ds ps → (∀ x ∈ ps,x.block < W.heap.size) → (∀ x ∈ ps,sp x.block = true) →
  DataW.TrodAll enc P W' 0 sp true ts vs ds ps
 | [],[],[],_,_,h,_,_ => h
 | [],[],_ :: _,_,_,h,_,_ => h.elim
 | [],_ :: _,_,_,_,h,_,_ => h.elim
 | _ :: _,[],_,_,_,h,_,_ => h.elim
 | _ :: _,_ :: _,[],_,_,h,_,_ => h.elim
 |t :: ts,v :: vs,d :: ds,ps,ht,h,hlt,hs => by
  obtain ⟨p,q,h1,h2,rfl⟩ :=h
  simp only [List.all_cons,Bool.and_eq_true,decide_eq_true_eq] at ht
  exact ⟨p,q,WideElems.Trod_stays hl ht.1.1 ht.1.2 h1 (fun x hx => hb.same (hlt x (List.mem_append_left _ hx))) (fun x hx => hs x (List.mem_append_left _ hx)),
   args_stay hl hb sp ht.2 h2 (fun x hx => hlt x (List.mem_append_right _ hx)) (fun x hx => hs x (List.mem_append_right _ hx)),rfl⟩
theorem law_post {f:Func} {s:ChangeSpec} {apart fresh handsOn again:Bool} {W W':World} {args:Array Value} {ds:List (DataW H)} {before:List MemPlace} {tb:TypeId}
  (hl:laidOutB P = true) (hts:(f.params.toList.all fun t => P.readableRec t && decide (t < P.types.size)) = true) (hr:f.resultTypes = #[tb]) (htb:P.underlying tb = some .bool) (hvars:s.vars = [])
  (hfn:s.fn H ds = { results :=[.lit (.bool true)],args :=ds }) (hW:DataW.Whole enc P f.params.toList s.vars apart W args.toList ds [] before) (hb:Below W.heap.size W W') :
  s.post enc P f apart fresh handsOn again W args (.bool true) W' :=by
 have hW' :=hW
 obtain ⟨p,q,hA,hV,rfl,_,_⟩ :=hW
 have hlt:∀ x ∈ p ++ q,x.block < W.heap.size :=fun x hx => hW'.lt x hx
 rw [hvars] at hV
 obtain ⟨_,rfl⟩ :=trodVars_none hV
 have e:s.fn H (ds ++ []) = { results :=[.lit (.bool true)],args :=ds } :=by rw [List.append_nil];exact hfn
 refine post_beside (pa :=p) (pv :=[]) hW' (fun b sp hd => ?_) (fun sp hsp => ?_) (fun sp _ => ?_) rfl hb ?_
 ·rw [e,hr]
  exact trodAll_mk1 (shut_bool htb _)
 ·rw [e]
  exact args_stay hl hb sp hts hA (fun x hx => hlt x (List.mem_append_left _ hx)) (fun x hx => hsp x (List.mem_append_left _ hx))
 ·rw [e,hvars]
  rfl
 ·exact ok_one hr rfl (okWide_bool_mk htb _)
end
end Go.Proofs.YtnimgfkggbnjoaaGreatDoor

namespace Go.Proofs.YtnimgfkggbnjoaaGreatDoor
open Go.ChangeShapes Go.WideShapes Go.ChangeAt Go.RowKit Go.Joins Go.Deep
open Go.Abs (VRels VRel LRel ghOf noL Lives Live AV Own Pure Gh)
open Go.Abs.Seat (pv flat flat_len)
theorem lrel_pairs {w:World} {b:Nat}:∀ (n off:Nat),(∀ i,i < n → ∃ z0 z1:Int,w.cell? ⟨b,off + i * 2,none⟩ = some (.int .i64 z0) ∧ w.cell? ⟨b,off + i * 2 + 1,none⟩ = some (.int .i64 z1)) →
  ∃ l:List (Int × Int),l.length = n ∧ ∀ g:Gh,LRel g w (flat l) b off
 | 0,_,_ => ⟨[],rfl,fun _ => trivial⟩
 |n + 1,off,h => by
  obtain ⟨z0,z1,h0,h1⟩ :=h 0 (by omega)
  obtain ⟨l,hl,hr⟩ :=lrel_pairs n (off + 2) fun i hi => by
   obtain ⟨y0,y1,k0,k1⟩ :=h (i + 1) (by omega)
   refine ⟨y0,y1,?_,?_⟩
   ·rw [show off + 2 + i * 2 = off + (i + 1) * 2 by omega];exact k0
   ·rw [show off + 2 + i * 2 + 1 = off + (i + 1) * 2 + 1 by omega];exact k1
  exact ⟨(z0,z1) :: l,by simp [hl],fun g => ⟨⟨_,by simpa using h0,rfl⟩,⟨_,by simpa using h1,rfl⟩,hr g⟩⟩
theorem block_lt {w:World} {b:Nat} {x:TypeId × Nat} (h:w.shape? b = some x):b < w.heap.size :=by
 by_cases hb:b < w.heap.size
 ·exact hb
 ·have e:w.heap[b]? = none :=by simp;omega
  simp [World.shape?,e] at h
theorem add_mk (b off k:Nat):(⟨b,off,none⟩ : Addr).add k = ⟨b,off + k,none⟩ :=by
 unfold Addr.add
 split
 ·rename_i h;subst h;rfl
 ·rfl
end Go.Proofs.YtnimgfkggbnjoaaGreatDoor
/-! Lists of numbers as arguments, opened; more arguments. -/
namespace Go.Proofs.YtnimgfkggbnjoaaGreatDoor
open Go.ChangeShapes Go.WideShapes Go.ChangeAt Go.RowKit Go.Joins Go.Deep
open Go.Abs (VRels VRel LRel ghOf noL Lives Live AV Own Pure Gh)
open Go.Abs.Seat (ivs nl ivs_len IL)
section
variable {H:Type} {enc:TypeId × Value → H} {P:Program} {w:World} {base:Nat} {spare:Nat → Bool} {held:Bool}
end
theorem lrel_ints {w:World} {b:Nat}:∀ (n off:Nat),(∀ i,i < n → ∃ z:Int,w.cell? ⟨b,off + i,none⟩ = some (.int .i64 z)) →
  ∃ l:List Int,l.length = n ∧ ∀ g:Gh,LRel g w (ivs l) b off
 | 0,_,_ => ⟨[],rfl,fun _ => trivial⟩
 |n + 1,off,h => by
  obtain ⟨z,h0⟩ :=h 0 (by omega)
  obtain ⟨l,hl,hr⟩ :=lrel_ints n (off + 1) fun i hi => by
   obtain ⟨y,k⟩ :=h (i + 1) (by omega)
   exact ⟨y,by rw [show off + 1 + i = off + (i + 1) by omega];exact k⟩
  exact ⟨z :: l,by simp [hl],fun g => ⟨⟨_,by simpa using h0,rfl⟩,hr g⟩⟩
theorem ints_arg {H:Type} {enc:TypeId × Value → H} {P:Program} {w:World} {base0:Nat} {ts te:TypeId} {v:Value} {d:DataW H} {p:List MemPlace}
  (ht:P.underlying ts = some (.slice te)) (ce:P.cellsOf te = 1) (i0:P.underlying te = some (.int .i64))
  (hv:Value.okWide P w .any base0 ts v) (h:DataW.Trod enc P w 0 (fun _ => true) true ts v d p) :
  ∃ (x:AV) (l:List Int) (N:Nat),Live noL x ∧ IL x l ∧ ∀ M,N ≤ M → VRel (ghOf (fun _ => M) w) w x v :=by
 obtain ⟨a,len,cap,rfl⟩ :=okWide_slice ht hv
 obtain ⟨fuel,hf⟩ :=h
 rcases open_slice1 ht ce hf with ⟨h1,_⟩ | ⟨a',len',cap',m,n,V,D,Pl,h1,_,hl,_,hm,_,hx⟩
 ·have h1:a = none ∧ len = 0 ∧ cap = 0 :=by simpa [Value.cells] using h1
  obtain ⟨rfl,rfl,rfl⟩ :=h1
  exact ⟨.nils,[],0,trivial,.inl ⟨rfl,rfl⟩,fun _ _ => rfl⟩
 ·have e1:a = some a' ∧ len = len' ∧ cap = cap' :=by simpa [Value.cells] using h1
  obtain ⟨rfl,rfl,rfl⟩ :=e1
  have hh:w.has P .any base0 a' te cap :=by
   simp only [Value.okWide,ht,Cell.okWide,Cell.ok] at hv
   exact hv.2.2
  obtain ⟨_,hs,row,cells,hsh,_⟩ :=hh
  have hb :=block_lt hsh
  obtain ⟨b,off,sp⟩ :=a'
  simp only at hs hb
  subst hs
  simp only [if_true] at hm
  subst hm
  have hc:∀ i,i < len → ∃ z:Int,w.cell? ⟨b,off + i,none⟩ = some (.int .i64 z) :=by
   intro i hi
   obtain ⟨k0,k2⟩ :=hx i (by omega)
   obtain ⟨z0,q0,_,_⟩ :=DataW.trod_int i0 k2
   simp at q0
   rw [q0,add_mk] at k0
   exact ⟨z0,k0⟩
  obtain ⟨l,rfl,hr⟩ :=lrel_ints len off hc
  refine ⟨nl l,l,off + l.length,Go.Abs.Seat.nl_no l,.inr rfl,fun M hM => ⟨b,off,_,rfl,hl,?_,hr _,trivial⟩⟩
  rw [ivs_len]
  show off + l.length ≤ if b < w.heap.size then M else 0
  rw [if_pos hb]
  exact hM
end Go.Proofs.YtnimgfkggbnjoaaGreatDoor

/-! A rule as argument, opened; lists of pairs. -/
namespace Go.Proofs.YtnimgfkggbnjoaaGreatDoor
open Go.ChangeShapes Go.WideShapes Go.ChangeAt Go.RowKit Go.Joins Go.Deep
open Go.Abs (VRels VRel LRel ghOf noL Lives Live AV Own Pure Gh)
open Go.Abs.Seat (ivs nl ivs_len IL rv PQ pv)
theorem array5 {α:Type} {cs:Array α} (h:cs.size = 5):∃ c0 c1 c2 c3 c4,cs = #[c0,c1,c2,c3,c4] :=by
 obtain ⟨l⟩ :=cs
 match l,h with
 | [c0,c1,c2,c3,c4],_ => exact ⟨c0,c1,c2,c3,c4,rfl⟩
section
variable {H:Type} {enc:TypeId × Value → H} {P:Program} {w:World} {base:Nat} {spare:Nat → Bool} {held:Bool}
theorem trod_struct5 {t:TypeId} {f0 f1 f2 f3 f4:Field} {fuel:Nat} {cs:List Value} {x:DataW H × List MemPlace} (ht:P.underlying t = some (.struct #[f0,f1,f2,f3,f4])) (h:DataW.trod enc P w base spare held fuel t cs = some x) :
  ∃ y0 y1 y2 y3 y4 n,x = (.agg [y0.1,y1.1,y2.1,y3.1,y4.1],y0.2 ++ (y1.2 ++ (y2.2 ++ (y3.2 ++ y4.2)))) ∧ cs.length = P.cellsOf t ∧ DataW.trod enc P w base spare held n f0.type ((cs.drop f0.offset).take (P.cellsOf f0.type)) = some y0 ∧
   DataW.trod enc P w base spare held n f1.type ((cs.drop f1.offset).take (P.cellsOf f1.type)) = some y1 ∧ DataW.trod enc P w base spare held n f2.type ((cs.drop f2.offset).take (P.cellsOf f2.type)) = some y2 ∧
   DataW.trod enc P w base spare held n f3.type ((cs.drop f3.offset).take (P.cellsOf f3.type)) = some y3 ∧ DataW.trod enc P w base spare held n f4.type ((cs.drop f4.offset).take (P.cellsOf f4.type)) = some y4 :=by
 obtain ⟨xs,n,_,rfl,hl,hlen,hf⟩ :=DataW.trod_struct ht h
 match xs,hlen with
 | [y0,y1,y2,y3,y4],_ => exact ⟨y0,y1,y2,y3,y4,n,by simp,hl,by simpa using hf 0 f0 rfl,by simpa using hf 1 f1 rfl,by simpa using hf 2 f2 rfl,by simpa using hf 3 f3 rfl,by simpa using hf 4 f4 rfl⟩
end
theorem wf_range {n:Int} (h:(Lit.int .i64 n).wf = true):-9223372036854775808 ≤ n ∧ n < 9223372036854775808 :=by
 simp [Lit.wf] at h
 have e:IntKind.i64.min = -9223372036854775808 :=by decide
 omega
theorem rule_arg {H:Type} {enc:TypeId × Value → H} {P:Program} {w:World} {base0:Nat} {t te u0 u1 u2 u3:TypeId} {f0 f1 f2 f3 f4:Field} {v:Value} {d:DataW H} {p:List MemPlace}
  (hs:P.underlying t = some (.struct #[f0,f1,f2,f3,f4])) (hone:oneCellFields P #[f0,f1,f2,f3,f4] = true) (hC:P.cellsOf t = 5) (hct:P.cellTypes P.depth t = some [u0,u1,u2,u3,f4.type])
  (i0:P.underlying f0.type = some (.int .i64)) (i1:P.underlying f1.type = some (.int .i64)) (i2:P.underlying f2.type = some (.int .i64)) (i3:P.underlying f3.type = some (.int .i64))
  (ht:P.underlying f4.type = some (.slice te)) (ce:P.cellsOf te = 1) (ie:P.underlying te = some (.int .i64))
  (hv:Value.okWide P w .any base0 t v) (h:DataW.Trod enc P w 0 (fun _ => true) true t v d p) :
  ∃ (a b c s:Int) (x:AV) (l:List Int) (N:Nat),Live noL x ∧ IL x l ∧ (-9223372036854775808 ≤ s ∧ s < 9223372036854775808) ∧ ∀ M,N ≤ M → VRel (ghOf (fun _ => M) w) w (rv a b c s x) v :=by
 have hv2 :=hv
 obtain ⟨cs,rfl,hsz⟩ :=okWide_struct hs hv
 obtain ⟨c0,c1,c2,c3,c4,rfl⟩ :=array5 (hsz.trans hC)
 obtain ⟨fuel,hf⟩ :=h
 obtain ⟨y0,y1,y2,y3,y4,n,hx,_,h0,h1,h2,h3,h4⟩ :=trod_struct5 hs hf
 obtain ⟨o0,k0⟩ :=hone_of hone 0 f0 rfl
 obtain ⟨o1,k1⟩ :=hone_of hone 1 f1 rfl
 obtain ⟨o2,k2⟩ :=hone_of hone 2 f2 rfl
 obtain ⟨o3,k3⟩ :=hone_of hone 3 f3 rfl
 obtain ⟨o4,k4⟩ :=hone_of hone 4 f4 rfl
 have g0:DataW.trod enc P w 0 (fun _ => true) true n f0.type [c0] = some y0 :=by simpa [Value.cells,o0,k0] using h0
 have g1:DataW.trod enc P w 0 (fun _ => true) true n f1.type [c1] = some y1 :=by simpa [Value.cells,o1,k1] using h1
 have g2:DataW.trod enc P w 0 (fun _ => true) true n f2.type [c2] = some y2 :=by simpa [Value.cells,o2,k2] using h2
 have g3:DataW.trod enc P w 0 (fun _ => true) true n f3.type [c3] = some y3 :=by simpa [Value.cells,o3,k3] using h3
 have g4:DataW.trod enc P w 0 (fun _ => true) true n f4.type [c4] = some y4 :=by simpa [Value.cells,o4,k4] using h4
 obtain ⟨a,e0,_,_⟩ :=DataW.trod_int i0 g0
 obtain ⟨b,e1,_,_⟩ :=DataW.trod_int i1 g1
 obtain ⟨c,e2,_,_⟩ :=DataW.trod_int i2 g2
 obtain ⟨s,e3,_,w3⟩ :=DataW.trod_int i3 g3
 simp at e0 e1 e2 e3
 subst e0 e1 e2 e3
 simp only [Value.okWide,hs] at hv2
 obtain ⟨cs2,ecs,_,ts,ets,_,hrow⟩ :=hv2
 cases ecs
 rw [hct] at ets
 cases ets
 obtain ⟨u,hu,hcell⟩ :=hrow 4 c4 rfl
 have hu:u = f4.type :=by simpa using hu.symm
 subst hu
 have hv4:Value.okWide P w .any base0 f4.type c4 :=by simp only [Value.okWide,ht];exact hcell
 obtain ⟨a4,len,cap,rfl⟩ :=okWide_slice ht hv4
 obtain ⟨x,l,N,l0,il,R⟩ :=ints_arg (enc :=enc) (d :=y4.1) (p :=y4.2) ht ce ie hv4 ⟨n,by simpa [Value.cells] using g4⟩
 exact ⟨a,b,c,s,x,l,N,l0,il,wf_range w3,fun M hM => ⟨_,rfl,_,_,rfl,rfl,_,_,rfl,rfl,_,_,rfl,rfl,_,_,rfl,rfl,_,_,rfl,R M hM,rfl⟩⟩
end Go.Proofs.YtnimgfkggbnjoaaGreatDoor

namespace Go.Proofs.YtnimgfkggbnjoaaGreatDoor
open Go.ChangeShapes Go.WideShapes Go.ChangeAt Go.RowKit Go.Joins Go.Deep
open Go.Abs (VRels VRel LRel ghOf noL Lives Live AV Own Pure Gh)
open Go.Abs.Seat (flat flat_len pv PQ PZ PQs XQ)
theorem cell_where {w:World} {a:Addr} {u:Value} (h:w.cell? a = some u):a.spot = none ∧ a.block < w.heap.size :=by
 unfold World.cell? at h
 split at h
 ·rename_i c e fz hc
  split at h
  ·cases h
  ·rename_i hs
   refine ⟨by simpa using hs,?_⟩
   exact (Array.getElem?_eq_some_iff.1 hc).1
 ·cases h
theorem pairs_cell {H:Type} {enc:TypeId × Value → H} {P:Program} {w:World} {tm te:TypeId} {f0 f1:Field} {u:Value} {n:Nat} {y:DataW H × List MemPlace}
  (ht:P.underlying tm = some (.slice te)) (he:P.underlying te = some (.struct #[f0,f1])) (ce:P.cellsOf te = 2) (o0:f0.offset = 0) (o1:f1.offset = 1) (c0:P.cellsOf f0.type = 1) (c1:P.cellsOf f1.type = 1)
  (i0:P.underlying f0.type = some (.int .i64)) (i1:P.underlying f1.type = some (.int .i64))
  (hf:DataW.trod enc P w 0 (fun _ => true) true n tm [u] = some y) :
  ∃ (x:AV) (L:List (Int × Int)) (N:Nat),PZ x L ∧ ∀ M,N ≤ M → VRel (ghOf (fun _ => M) w) w x u :=by
 rcases open_slice_pairs ht he ce o0 o1 c0 c1 hf with ⟨h1,_⟩ | ⟨a',len',cap',m,k,V0,V1,D0,D1,P0,P1,h1,_,hl,_,hm,_,hx⟩
 ·have h1:u = .slice none 0 0 :=by simpa using h1
  subst h1
  exact ⟨.nils,[],0,.inl (.inl ⟨rfl,rfl⟩),fun _ _ => rfl⟩
 ·have h1:u = .slice (some a') len' cap' :=by simpa using h1
  subst h1
  simp only [if_true] at hm
  subst hm
  by_cases hc0:m = 0
  ·subst hc0
   obtain rfl:len' = 0 :=by omega
   exact ⟨.gp 0 0,[],0,.inr ⟨rfl,rfl⟩,fun _ _ => .inr ⟨rfl,a',rfl⟩⟩
  ·have hz :=hx 0 (by omega)
   have hw :=cell_where hz.1
   have hsp:a'.spot = none :=by
    have e :=hw.1
    rwa [show (a'.add (0 * 2)) = a' by simp [Addr.add]] at e
   have hb:a'.block < w.heap.size :=by
    have e :=hw.2
    rwa [show (a'.add (0 * 2)) = a' by simp [Addr.add]] at e
   obtain ⟨b,off,sp⟩ :=a'
   simp only at hsp hb
   subst hsp
   have hc:∀ i,i < len' → ∃ z0 z1:Int,w.cell? ⟨b,off + i * 2,none⟩ = some (.int .i64 z0) ∧ w.cell? ⟨b,off + i * 2 + 1,none⟩ = some (.int .i64 z1) :=by
    intro i hi
    obtain ⟨k0,k1,k2,k3⟩ :=hx i (by omega)
    obtain ⟨z0,q0,_,_⟩ :=DataW.trod_int i0 k2
    obtain ⟨z1,q1,_,_⟩ :=DataW.trod_int i1 k3
    simp at q0 q1
    rw [q0] at k0
    rw [q1] at k1
    rw [add_mk] at k0 k1
    exact ⟨z0,z1,k0,k1⟩
   obtain ⟨l,rfl,hr⟩ :=lrel_pairs len' off hc
   refine ⟨pv l,l,off + l.length * 2,.inl (.inr rfl),fun M hM => ⟨b,off,_,rfl,hl,?_,hr _,trivial⟩⟩
   rw [flat_len]
   show off + l.length * 2 ≤ if b < w.heap.size then M else 0
   rw [if_pos hb]
   exact hM
theorem lrel_rows {w:World} {b:Nat}:∀ (n off:Nat),(∀ i,i < n → ∃ u,w.cell? ⟨b,off + i,none⟩ = some u ∧ ∃ (x:AV) (L:List (Int × Int)) (N:Nat),PZ x L ∧ ∀ M,N ≤ M → VRel (ghOf (fun _ => M) w) w x u) →
  ∃ (vs:List AV) (Ls:List (List (Int × Int))) (N:Nat),PQs vs Ls ∧ Ls.length = n ∧ vs.length = n ∧ ∀ M,N ≤ M → LRel (ghOf (fun _ => M) w) w vs b off
 | 0,_,_ => ⟨[],[],0,trivial,rfl,rfl,fun _ _ => trivial⟩
 |n + 1,off,h => by
  obtain ⟨u,k,x,L,N,h1,h2⟩ :=h 0 (by omega)
  obtain ⟨vs,Ls,N2,g1,g2,g3,g4⟩ :=lrel_rows n (off + 1) fun i hi => by
   obtain ⟨u,k,r⟩ :=h (i + 1) (by omega)
   exact ⟨u,by rw [show off + 1 + i = off + (i + 1) by omega];exact k,r⟩
  exact ⟨x :: vs,L :: Ls,max N N2,⟨h1,g1⟩,by simp [g2],by simp [g3],fun M hM => ⟨⟨u,by simpa using k,h2 M (by omega)⟩,g4 M (by omega)⟩⟩
theorem trains_arg {H:Type} {enc:TypeId × Value → H} {P:Program} {w:World} {base0:Nat} {ts tm te:TypeId} {f0 f1:Field} {v:Value} {d:DataW H} {p:List MemPlace}
  (ho:P.underlying ts = some (.slice tm)) (cm:P.cellsOf tm = 1) (ht:P.underlying tm = some (.slice te)) (he:P.underlying te = some (.struct #[f0,f1])) (ce:P.cellsOf te = 2) (o0:f0.offset = 0) (o1:f1.offset = 1) (c0:P.cellsOf f0.type = 1) (c1:P.cellsOf f1.type = 1)
  (i0:P.underlying f0.type = some (.int .i64)) (i1:P.underlying f1.type = some (.int .i64))
  (hv:Value.okWide P w .any base0 ts v) (h:DataW.Trod enc P w 0 (fun _ => true) true ts v d p) :
  ∃ (x:AV) (Ls:List (List (Int × Int))) (N:Nat),Live noL x ∧ XQ x Ls ∧ ∀ M,N ≤ M → VRel (ghOf (fun _ => M) w) w x v :=by
 obtain ⟨a,len,cap,rfl⟩ :=okWide_slice ho hv
 obtain ⟨fuel,hf⟩ :=h
 rcases open_slice1 ho cm hf with ⟨h1,_⟩ | ⟨a',len',cap',m,n,V,D,Pl,h1,_,hl,_,hm,_,hx⟩
 ·have h1:a = none ∧ len = 0 ∧ cap = 0 :=by simpa [Value.cells] using h1
  obtain ⟨rfl,rfl,rfl⟩ :=h1
  exact ⟨.nils,[],0,trivial,.inl ⟨rfl,rfl⟩,fun _ _ => rfl⟩
 ·have e1:a = some a' ∧ len = len' ∧ cap = cap' :=by simpa [Value.cells] using h1
  obtain ⟨rfl,rfl,rfl⟩ :=e1
  have hh:w.has P .any base0 a' tm cap :=by
   simp only [Value.okWide,ho,Cell.okWide,Cell.ok] at hv
   exact hv.2.2
  obtain ⟨_,hs,row,cells,hsh,_⟩ :=hh
  have hb :=block_lt hsh
  obtain ⟨b,off,sp⟩ :=a'
  simp only at hs hb
  subst hs
  simp only [if_true] at hm
  subst hm
  have hc:∀ i,i < len → ∃ u,w.cell? ⟨b,off + i,none⟩ = some u ∧ ∃ (x:AV) (L:List (Int × Int)) (N:Nat),PZ x L ∧ ∀ M,N ≤ M → VRel (ghOf (fun _ => M) w) w x u :=by
   intro i hi
   obtain ⟨k0,k2⟩ :=hx i (by omega)
   rw [add_mk] at k0
   exact ⟨_,k0,pairs_cell ht he ce o0 o1 c0 c1 i0 i1 k2⟩
  obtain ⟨vs,Ls,N,g1,g2,g3,g4⟩ :=lrel_rows len off hc
  subst g2
  have hX:XQ (.lst vs Ls.length .no) Ls :=.inr ⟨vs,g1,rfl⟩
  refine ⟨_,Ls,max N (off + Ls.length),hX.no,hX,fun M hM => ⟨b,off,_,rfl,hl,?_,g4 M (by omega),trivial⟩⟩
  rw [g3]
  show off + Ls.length ≤ if b < w.heap.size then M else 0
  rw [if_pos hb]
  omega
theorem laid_gok {W:World} (h:laidMetH Tryz.prog listed W) {M:Nat} (hM:4 ≤ M):Go.Abs.GOk (ghOf (fun _ => M) W) W :=by
 rw [MakeChecks.laidMetH_plain _ _ _ (by kernel_rfl)] at h
 obtain ⟨ps,hl,_,_⟩ :=h
 unfold listed at hl
 simp only [DataW.LaidVars] at hl
 obtain ⟨_,_,_,_,_,_,_,_,_,_,⟨_,_,_,_,_,_,_,_,_,_,⟨g,t,cs,fuel,p,q,hg,ht,hv,htr,_⟩,_⟩,_⟩ :=hl
 have hg0:Tryz.prog.globalNamed "internal/strconv.uint64pow10" = some 0 :=by kernel_rfl
 obtain rfl:g = 0 :=Option.some.inj (hg.symm.trans hg0)
 have ht0:(Tryz.prog.globals[0]?).map (·.type) = some 202 :=by kernel_rfl
 obtain rfl:t = 202 :=Option.some.inj (ht.symm.trans ht0)
 have hcells:∃ el fz,W.heap[0]? = some (.cells cs el fz) :=by
  unfold World.var? at hv
  rw [hg0] at hv
  simp only [Option.bind_some] at hv
  split at hv
  ·rename_i c el fz hc
   cases hv
   exact ⟨el,fz,hc⟩
  ·cases hv
 obtain ⟨el,fz,hc⟩ :=hcells
 obtain ⟨xs,m,_,hx,_,hxl,hi⟩ :=DataW.trod_array (n :=20) (e :=189) (by kernel_rfl) htr
 have hd :=(Prod.mk.inj hx).1
 unfold Rows.laid_internal_strconv_uint64pow10 at hd
 have hd :=DataW.agg.inj hd
 have key:∀ i,i < 4 → cs[i]? = some (.int .u64 (Go.Abs.gl0.getD i 0)) :=by
  intro i hi4
  have hi1 :=hi i (by omega)
  have hy:i < xs.length :=by omega
  rw [List.getElem?_eq_getElem hy,show Tryz.prog.cellsOf 189 = 1 by kernel_rfl,Nat.mul_one] at hi1
  obtain ⟨z,e1,e2,_⟩ :=DataW.trod_int (k :=.u64) (by kernel_rfl) hi1
  have e3:(xs.map (·.1))[i]? = some (.lit (.int .u64 z)) :=by
   rw [List.getElem?_map,List.getElem?_eq_getElem hy,e2];rfl
  rw [← hd] at e3
  have hz:z = Go.Abs.gl0.getD i 0 :=by
   have:i = 0 ∨ i = 1 ∨ i = 2 ∨ i = 3 :=by omega
   rcases this with rfl | rfl | rfl | rfl
   all_goals
    simp only [List.getElem?_cons_zero,List.getElem?_cons_succ,Option.some.injEq,DataW.lit.injEq,Lit.int.injEq,true_and] at e3
    exact e3.symm
  rw [← hz]
  have e4:((cs.toList.drop i).take 1)[0]? = some (.int .u64 z) :=by rw [e1];rfl
  rw [List.getElem?_take_of_lt (by decide),List.getElem?_drop,Nat.add_zero] at e4
  simpa using e4
 have hsz:0 < W.heap.size :=(Array.getElem?_eq_some_iff.1 hc).1
 refine ⟨?_,fun j hj => ?_⟩
 ·show 4 ≤ if 0 < W.heap.size then M else 0
  rw [if_pos hsz];exact hM
 ·unfold World.cell?
  rw [hc]
  exact key j hj
end Go.Proofs.YtnimgfkggbnjoaaGreatDoor
