/-
  What every law of the seat hands in alike: the listed tables, the last step of a row.
-/
import Derived.Test.YtnimgfkggbnjoaaGreatDoorTie
import Derived.Test.YtnimgfkggbnjoaaGreatDoorCards
import Derived.ProofKit
import Derived.OpenShut
import Derived.LaidMore
import Derived.Lay
import Derived.Below
import Derived.ChangeSame
import Derived.SevenTiedAt
import Derived.Stop.Joined
import Derived.Lib.SmallJoins
import Derived.Test.YtnimgfkggbnjoaaGreatDoorXU16
import Derived.Test.YtnimgfkggbnjoaaGreatDoorXU5
import Derived.WideKeyArgs
import Derived.Carry
import Derived.Test.YtnimgfkggbnjoaaGreatDoorXU7
import Derived.Deep.SlicePairs
import Derived.Test.YtnimgfkggbnjoaaGreatDoorXU12
import Derived.Test.YtnimgfkggbnjoaaGreatDoorXU14
import Derived.Deep.Slices
/-! What every law of the seat hands in alike: the listed tables, the last step of a row. -/
namespace Go.Proofs.YtnimgfkggbnjoaaGreatDoor
open Go.ChangeShapes Go.WideShapes Go.ChangeAt Go.RowKit Go.Joins
open Go.Abs (VRels VRel ghOf noL Lives Live AV Own Pure)
theorem ownKnobNone:ownKnob Tryz.prog.godebug = none :=by kernel_rfl
noncomputable def listed:List (String × DataW Unit) :=[("math/bits.deBruijn32tab", Rows.laid_math_bits_deBruijn32tab),("math/bits.deBruijn64tab", Rows.laid_math_bits_deBruijn64tab),("internal/strconv.uint64pow10", Rows.laid_internal_strconv_uint64pow10),("unicode/utf8.acceptRanges", Rows.laid_unicode_utf8_acceptRanges),("unicode/utf8.first", Rows.laid_unicode_utf8_first)]
theorem listed_met (os:Os) (args:Array Value):laidMetH Tryz.prog listed ((World.laidAll Tryz.prog os listed).forCall (fun _ _ => 0) ⟨#[],args,[]⟩).memory :=by
 rw [MakeChecks.laidMetH_plain _ _ _ (by kernel_rfl)]
 exact laidMet_laidAll _ (by kernel_rfl) (by kernel_rfl)
section
variable {H:Type} {enc:TypeId × Value → H} {P:Program}
theorem post_beside {f:Func} {s:ChangeSpec} {apart fresh handsOn again:Bool} {W W':World} {args:Array Value} {v:Value} {ds gs:List (DataW H)} {before pa pv:List MemPlace}
  (hW:DataW.Whole enc P f.params.toList s.vars apart W args.toList ds gs before)
  (hres:∀ (b:Nat) (sp:Nat → Bool) (hd:Bool),DataW.TrodAll enc P W' b sp hd f.resultTypes.toList (v.resultList f.resultTypes.size) (s.fn H (ds ++ gs)).results [])
  (hargs:∀ sp:Nat → Bool,(∀ p ∈ before,sp p.block = true) → DataW.TrodAll enc P W' 0 sp true f.params.toList args.toList (s.fn H (ds ++ gs)).args pa)
  (hvars:∀ sp:Nat → Bool,(∀ p ∈ before,sp p.block = true) → DataW.TrodVars enc P W' sp s.vars (s.fn H (ds ++ gs)).vars pv)
  (hps:before = pa ++ pv) (hb:Below W.heap.size W W')
  (hok:∀ (j:Nat) (t:TypeId) (r:Value),f.resultTypes[j]? = some t → (v.resultList f.resultTypes.size)[j]? = some r → Value.okWide P W' .any 0 t r) :
  s.post enc P f apart fresh handsOn again W args v W' :=by
 have hin:∀ p ∈ before,p.block < W.heap.size :=fun p hp => hW.lt p hp
 have hsp:∀ p ∈ before,(fun b => decide (b < W.heap.size)) p.block = true :=fun p hp => by simpa using hin p hp
 refine ⟨ds,gs,before,[],pa,pv,hW,hres _ _ _,hargs _ hsp,hvars _ hsp,World.keptBut_mono (fun p hp => ⟨hp,?_⟩) (hb.frame (· ∈ before)),fun _ => ?_⟩
 ·rw [hps,List.mem_append] at hp
  exact Or.inr hp
 ·obtain ⟨_,_,_,_,_,hz,hn⟩ :=hW
  refine ⟨hok,_,_,([] ++ pa) ++ pv,⟨[] ++ pa,pv,trodAll_append (hargs _ (fun _ _ => rfl)) (hres _ _ _),hvars _ (fun _ _ => rfl),rfl,?_,?_⟩,?_⟩
  ·intro b off hp
   have hm:MemPlace.cell b off ∈ before :=by rw [hps];simpa using hp
   rw [hb.frozen (hin _ hm)]
   exact hz b off hm
  ·intro ha
   have :=hn ha
   rw [hps] at this
   simpa using this
  ·intro p hp _
   rw [hps]
   simpa using hp
end
end Go.Proofs.YtnimgfkggbnjoaaGreatDoor

/-! The last step of a law: it answers true, and all that the caller has is as it was. -/
namespace Go.Proofs.YtnimgfkggbnjoaaGreatDoor
open Go.ChangeShapes Go.WideShapes Go.ChangeAt Go.RowKit Go.Joins
open Go.Abs (VRels VRel ghOf noL Lives Live AV Own Pure)
theorem laidOutProg:laidOutB Tryz.prog = true :=by kernel_rfl
section
variable {H:Type} {enc:TypeId × Value → H} {P:Program}
theorem args_stay (hl:laidOutB P = true) {W W':World} (hb:Below W.heap.size W W') (sp:Nat → Bool):∀ {ts:List TypeId} {vs:List Value} {ds:List (DataW H)} {ps:List MemPlace},
  (ts.all fun t => P.readableRec t && decide (t < P.types.size)) = true → DataW.TrodAll enc P W 0 (fun _ => true) true ts vs ds ps → (∀ x ∈ ps,x.block < W.heap.size) → (∀ x ∈ ps,sp x.block = true) →
  DataW.TrodAll enc P W' 0 sp true ts vs ds ps
 | [],[],[],_,_,h,_,_ => h
 | [],[],_ :: _,_,_,h,_,_ => h.elim
 | [],_ :: _,_,_,_,h,_,_ => h.elim
 | _ :: _,[],_,_,_,h,_,_ => h.elim
 | _ :: _,_ :: _,[],_,_,h,_,_ => h.elim
 |t :: ts,v :: vs,d :: ds,ps,ht,h,hlt,hs => by
  obtain ⟨p,q,h1,h2,rfl⟩ :=h
  simp only [List.all_cons,Bool.and_eq_true,decide_eq_true_eq] at ht
  exact ⟨p,q,WideElems.Trod_stays hl ht.1.1 ht.1.2 h1 (fun x hx => hb.same (hlt x (List.mem_append_left _ hx))) (fun x hx => hs x (List.mem_append_left _ hx)),
   args_stay hl hb sp ht.2 h2 (fun x hx => hlt x (List.mem_append_right _ hx)) (fun x hx => hs x (List.mem_append_right _ hx)),rfl⟩
theorem law_post {f:Func} {s:ChangeSpec} {apart fresh handsOn again:Bool} {W W':World} {args:Array Value} {ds:List (DataW H)} {before:List MemPlace} {tb:TypeId}
  (hl:laidOutB P = true) (hts:(f.params.toList.all fun t => P.readableRec t && decide (t < P.types.size)) = true) (hr:f.resultTypes = #[tb]) (htb:P.underlying tb = some .bool) (hvars:s.vars = [])
  (hfn:s.fn H ds = { results :=[.lit (.bool true)],args :=ds }) (hW:DataW.Whole enc P f.params.toList s.vars apart W args.toList ds [] before) (hb:Below W.heap.size W W') :
  s.post enc P f apart fresh handsOn again W args (.bool true) W' :=by
 have hW' :=hW
 obtain ⟨p,q,hA,hV,rfl,_,_⟩ :=hW
 have hlt:∀ x ∈ p ++ q,x.block < W.heap.size :=fun x hx => hW'.lt x hx
 rw [hvars] at hV
 obtain ⟨_,rfl⟩ :=trodVars_none hV
 have e:s.fn H (ds ++ []) = { results :=[.lit (.bool true)],args :=ds } :=by rw [List.append_nil];exact hfn
 refine post_beside (pa :=p) (pv :=[]) hW' (fun b sp hd => ?_) (fun sp hsp => ?_) (fun sp _ => ?_) rfl hb ?_
 ·rw [e,hr]
  exact trodAll_mk1 (shut_bool htb _)
 ·rw [e]
  exact args_stay hl hb sp hts hA (fun x hx => hlt x (List.mem_append_left _ hx)) (fun x hx => hsp x (List.mem_append_left _ hx))
 ·rw [e,hvars]
  rfl
 ·exact ok_one hr rfl (okWide_bool_mk htb _)
end
end Go.Proofs.YtnimgfkggbnjoaaGreatDoor

namespace Go.Proofs.YtnimgfkggbnjoaaGreatDoor
open Go.ChangeShapes Go.WideShapes Go.ChangeAt Go.RowKit Go.Joins Go.Deep
open Go.Abs (VRels VRel LRel ghOf noL Lives Live AV Own Pure Gh)
open Go.Abs.Seat (pv flat flat_len)

end Go.Proofs.YtnimgfkggbnjoaaGreatDoor
/-! Lists of numbers as arguments, opened; more arguments. -/
namespace Go.Proofs.YtnimgfkggbnjoaaGreatDoor
open Go.ChangeShapes Go.WideShapes Go.ChangeAt Go.RowKit Go.Joins Go.Deep
open Go.Abs (VRels VRel LRel ghOf noL Lives Live AV Own Pure Gh)
open Go.Abs.Seat (ivs nl ivs_len IL)
section
variable {H:Type} {enc:TypeId × Value → H} {P:Program} {w:World} {base:Nat} {spare:Nat → Bool} {held:Bool}
end
end Go.Proofs.YtnimgfkggbnjoaaGreatDoor

/-! A rule as argument, opened; lists of pairs. -/
namespace Go.Proofs.YtnimgfkggbnjoaaGreatDoor
open Go.ChangeShapes Go.WideShapes Go.ChangeAt Go.RowKit Go.Joins Go.Deep
open Go.Abs (VRels VRel LRel ghOf noL Lives Live AV Own Pure Gh)
open Go.Abs.Seat (ivs nl ivs_len IL rv PQ pv)
section
variable {H:Type} {enc:TypeId × Value → H} {P:Program} {w:World} {base:Nat} {spare:Nat → Bool} {held:Bool}
end
end Go.Proofs.YtnimgfkggbnjoaaGreatDoor

namespace Go.Proofs.YtnimgfkggbnjoaaGreatDoor
open Go.ChangeShapes Go.WideShapes Go.ChangeAt Go.RowKit Go.Joins Go.Deep
open Go.Abs (VRels VRel LRel ghOf noL Lives Live AV Own Pure Gh)
open Go.Abs.Seat (flat flat_len pv PQ PZ PQs XQ)
theorem laid_gok {W:World} (h:laidMetH Tryz.prog listed W) {M:Nat} (hM:4 ≤ M):Go.Abs.GOk (ghOf (fun _ => M) W) W :=by
 rw [MakeChecks.laidMetH_plain _ _ _ (by kernel_rfl)] at h
 obtain ⟨ps,hl,_,_⟩ :=h
 unfold listed at hl
 simp only [DataW.LaidVars] at hl
 obtain ⟨_,_,_,_,_,_,_,_,_,_,⟨_,_,_,_,_,_,_,_,_,_,⟨g,t,cs,fuel,p,q,hg,ht,hv,htr,_⟩,_⟩,_⟩ :=hl
 have hg0:Tryz.prog.globalNamed "internal/strconv.uint64pow10" = some 0 :=by kernel_rfl
 obtain rfl:g = 0 :=Option.some.inj (hg.symm.trans hg0)
 have ht0:(Tryz.prog.globals[0]?).map (·.type) = some 202 :=by kernel_rfl
 obtain rfl:t = 202 :=Option.some.inj (ht.symm.trans ht0)
 have hcells:∃ el fz,W.heap[0]? = some (.cells cs el fz) :=by
  unfold World.var? at hv
  rw [hg0] at hv
  simp only [Option.bind_some] at hv
  split at hv
  ·rename_i c el fz hc
   cases hv
   exact ⟨el,fz,hc⟩
  ·cases hv
 obtain ⟨el,fz,hc⟩ :=hcells
 obtain ⟨xs,m,_,hx,_,hxl,hi⟩ :=DataW.trod_array (n :=20) (e :=189) (by kernel_rfl) htr
 have hd :=(Prod.mk.inj hx).1
 unfold Rows.laid_internal_strconv_uint64pow10 at hd
 have hd :=DataW.agg.inj hd
 have key:∀ i,i < 4 → cs[i]? = some (.int .u64 (Go.Abs.gl0.getD i 0)) :=by
  intro i hi4
  have hi1 :=hi i (by omega)
  have hy:i < xs.length :=by omega
  rw [List.getElem?_eq_getElem hy,show Tryz.prog.cellsOf 189 = 1 by kernel_rfl,Nat.mul_one] at hi1
  obtain ⟨z,e1,e2,_⟩ :=DataW.trod_int (k :=.u64) (by kernel_rfl) hi1
  have e3:(xs.map (·.1))[i]? = some (.lit (.int .u64 z)) :=by
   rw [List.getElem?_map,List.getElem?_eq_getElem hy,e2];rfl
  rw [← hd] at e3
  have hz:z = Go.Abs.gl0.getD i 0 :=by
   have:i = 0 ∨ i = 1 ∨ i = 2 ∨ i = 3 :=by omega
   rcases this with rfl | rfl | rfl | rfl
   all_goals
    simp only [List.getElem?_cons_zero,List.getElem?_cons_succ,Option.some.injEq,DataW.lit.injEq,Lit.int.injEq,true_and] at e3
    exact e3.symm
  rw [← hz]
  have e4:((cs.toList.drop i).take 1)[0]? = some (.int .u64 z) :=by rw [e1];rfl
  rw [List.getElem?_take_of_lt (by decide),List.getElem?_drop,Nat.add_zero] at e4
  simpa using e4
 have hsz:0 < W.heap.size :=(Array.getElem?_eq_some_iff.1 hc).1
 refine ⟨?_,fun j hj => ?_⟩
 ·show 4 ≤ if 0 < W.heap.size then M else 0
  rw [if_pos hsz];exact hM
 ·unfold World.cell?
  rw [hc]
  exact key j hj
end Go.Proofs.YtnimgfkggbnjoaaGreatDoor
