/-
  What every law of the seat hands in alike: the listed tables, the last step of a row.
-/
import Derived.Test.YtlmadgdonalncaaGreatDoorTie
import Derived.Test.YtlmadgdonalncaaGreatDoorCards
import Derived.ProofKit
import Derived.OpenShut
import Derived.LaidMore
import Derived.Lay
import Derived.Below
import Derived.ChangeSame
import Derived.SevenTiedAt
import Derived.Stop.Joined
import Derived.Lib.SmallJoins
import Derived.Test.YtlmadgdonalncaaGreatDoorU18
import Derived.Test.YtlmadgdonalncaaGreatDoorU5
import Derived.WideKeyArgs
import Derived.Carry
import Derived.Test.YtlmadgdonalncaaGreatDoorU7
import Derived.Deep.SlicePairs
import Derived.Test.YtlmadgdonalncaaGreatDoorU10
import Derived.Deep.Slices
/-! What every law of the seat hands in alike: the listed tables, the last step of a row. -/
namespace Go.Proofs.YtlmadgdonalncaaGreatDoor
open Go.ChangeShapes Go.WideShapes Go.ChangeAt Go.RowKit Go.Joins
open Go.Abs (VRels VRel ghOf noL Lives Live AV Own Pure)
theorem ownKnobNone:ownKnob Tryz.prog.godebug = none :=by kernel_rfl
noncomputable def listed:List (String × DataW Unit) :=[("math/bits.deBruijn32tab", Rows.laid_math_bits_deBruijn32tab),("math/bits.deBruijn64tab", Rows.laid_math_bits_deBruijn64tab),("internal/strconv.uint64pow10", Rows.laid_internal_strconv_uint64pow10),("unicode/utf8.acceptRanges", Rows.laid_unicode_utf8_acceptRanges),("unicode/utf8.first", Rows.laid_unicode_utf8_first)]
theorem listed_met (os:Os) (args:Array Value):laidMetH Tryz.prog listed ((World.laidAll Tryz.prog os listed).forCall (fun _ _ => 0) ⟨#[],args,[]⟩).memory :=by
 rw [MakeChecks.laidMetH_plain _ _ _ (by kernel_rfl)]
 exact laidMet_laidAll _ (by kernel_rfl) (by kernel_rfl)
section
variable {H:Type} {enc:TypeId × Value → H} {P:Program}
theorem post_beside {f:Func} {s:ChangeSpec} {apart fresh handsOn again:Bool} {W W':World} {args:Array Value} {v:Value} {ds gs:List (DataW H)} {before pa pv:List MemPlace}
  (hW:DataW.Whole enc P f.params.toList s.vars apart W args.toList ds gs before)
  (hres:∀ (b:Nat) (sp:Nat → Bool) (hd:Bool),DataW.TrodAll enc P W' b sp hd f.resultTypes.toList (v.resultList f.resultTypes.size) (s.fn H (ds ++ gs)).results [])
  (hargs:∀ sp:Nat → Bool,(∀ p ∈ before,sp p.block = true) → DataW.TrodAll enc P W' 0 sp true f.params.toList args.toList (s.fn H (ds ++ gs)).args pa)
  (hvars:∀ sp:Nat → Bool,(∀ p ∈ before,sp p.block = true) → DataW.TrodVars enc P W' sp s.vars (s.fn H (ds ++ gs)).vars pv)
  (hps:before = pa ++ pv) (hb:Below W.heap.size W W')
  (hok:∀ (j:Nat) (t:TypeId) (r:Value),f.resultTypes[j]? = some t → (v.resultList f.resultTypes.size)[j]? = some r → Value.okWide P W' .any 0 t r) :
  s.post enc P f apart fresh handsOn again W args v W' :=by
 have hin:∀ p ∈ before,p.block < W.heap.size :=fun p hp => hW.lt p hp
 have hsp:∀ p ∈ before,(fun b => decide (b < W.heap.size)) p.block = true :=fun p hp => by simpa using hin p hp
 refine ⟨ds,gs,before,[],pa,pv,hW,hres _ _ _,hargs _ hsp,hvars _ hsp,World.keptBut_mono (fun p hp => ⟨hp,?_⟩) (hb.frame (· ∈ before)),fun _ => ?_⟩
 ·rw [hps,List.mem_append] at hp
  exact Or.inr hp
 ·obtain ⟨_,_,_,_,_,hz,hn⟩ :=hW
  refine ⟨hok,_,_,([] ++ pa) ++ pv,⟨[] ++ pa,pv,trodAll_append (hargs _ (fun _ _ => rfl)) (hres _ _ _),hvars _ (fun _ _ => rfl),rfl,?_,?_⟩,?_⟩
  ·intro b off hp
   have hm:MemPlace.cell b off ∈ before :=by rw [hps];simpa using hp
   rw [hb.frozen (hin _ hm)]
   exact hz b off hm
  ·intro ha
   have :=hn ha
   rw [hps] at this
   simpa using this
  ·intro p hp _
   rw [hps]
   simpa using hp
end
end Go.Proofs.YtlmadgdonalncaaGreatDoor

/-! The last step of a law: it answers true, and all that the caller has is as it was. -/
namespace Go.Proofs.YtlmadgdonalncaaGreatDoor
open Go.ChangeShapes Go.WideShapes Go.ChangeAt Go.RowKit Go.Joins
open Go.Abs (VRels VRel ghOf noL Lives Live AV Own Pure)
theorem laidOutProg:laidOutB Tryz.prog = true :=by kernel_rfl
section
variable {H:Type} {enc:TypeId × Value → H} {P:Program}
theorem args_stay (hl:laidOutB P = true) {W W':World} (hb:Below W.heap.size W W') (sp:Nat → Bool):∀ {ts:List TypeId} {vs:List Value} {ds:List (DataW H)} {ps:List MemPlace},
  (ts.all fun t => P.readableRec t && decide (t < P.types.size)) = true → DataW.TrodAll enc P W 0 (fun _ => true) true ts vs ds ps → (∀ x ∈ ps,x.block < W.heap.size) → (∀ x ∈ ps,sp x.block = true) →
  DataW.TrodAll enc P W' 0 sp true ts vs ds ps
 | [],[],[],_,_,h,_,_ => h
 | [],[],_ :: _,_,_,h,_,_ => h.elim
 | [],_ :: _,_,_,_,h,_,_ => h.elim
 | _ :: _,[],_,_,_,h,_,_ => h.elim
 | _ :: _,_ :: _,[],_,_,h,_,_ => h.elim
 |t :: ts,v :: vs,d :: ds,ps,ht,h,hlt,hs => by
  obtain ⟨p,q,h1,h2,rfl⟩ :=h
  simp only [List.all_cons,Bool.and_eq_true,decide_eq_true_eq] at ht
  exact ⟨p,q,WideElems.Trod_stays hl ht.1.1 ht.1.2 h1 (fun x hx => hb.same (hlt x (List.mem_append_left _ hx))) (fun x hx => hs x (List.mem_append_left _ hx)),
   args_stay hl hb sp ht.2 h2 (fun x hx => hlt x (List.mem_append_right _ hx)) (fun x hx => hs x (List.mem_append_right _ hx)),rfl⟩
theorem law_post {f:Func} {s:ChangeSpec} {apart fresh handsOn again:Bool} {W W':World} {args:Array Value} {ds:List (DataW H)} {before:List MemPlace} {tb:TypeId}
  (hl:laidOutB P = true) (hts:(f.params.toList.all fun t => P.readableRec t && decide (t < P.types.size)) = true) (hr:f.resultTypes = #[tb]) (htb:P.underlying tb = some .bool) (hvars:s.vars = [])
  (hfn:s.fn H ds = { results :=[.lit (.bool true)],args :=ds }) (hW:DataW.Whole enc P f.params.toList s.vars apart W args.toList ds [] before) (hb:Below W.heap.size W W') :
  s.post enc P f apart fresh handsOn again W args (.bool true) W' :=by
 have hW' :=hW
 obtain ⟨p,q,hA,hV,rfl,_,_⟩ :=hW
 have hlt:∀ x ∈ p ++ q,x.block < W.heap.size :=fun x hx => hW'.lt x hx
 rw [hvars] at hV
 obtain ⟨_,rfl⟩ :=trodVars_none hV
 have e:s.fn H (ds ++ []) = { results :=[.lit (.bool true)],args :=ds } :=by rw [List.append_nil];exact hfn
 refine post_beside (pa :=p) (pv :=[]) hW' (fun b sp hd => ?_) (fun sp hsp => ?_) (fun sp _ => ?_) rfl hb ?_
 ·rw [e,hr]
  exact trodAll_mk1 (shut_bool htb _)
 ·rw [e]
  exact args_stay hl hb sp hts hA (fun x hx => hlt x (List.mem_append_left _ hx)) (fun x hx => hsp x (List.mem_append_left _ hx))
 ·rw [e,hvars]
  rfl
 ·exact ok_one hr rfl (okWide_bool_mk htb _)
end
end Go.Proofs.YtlmadgdonalncaaGreatDoor

namespace Go.Proofs.YtlmadgdonalncaaGreatDoor
open Go.ChangeShapes Go.WideShapes Go.ChangeAt Go.RowKit Go.Joins Go.Deep
open Go.Abs (VRels VRel LRel ghOf noL Lives Live AV Own Pure Gh)
open Go.Abs.Seat (pv flat flat_len)

end Go.Proofs.YtlmadgdonalncaaGreatDoor
/-! Lists of numbers as arguments, opened; more arguments. -/
namespace Go.Proofs.YtlmadgdonalncaaGreatDoor
open Go.ChangeShapes Go.WideShapes Go.ChangeAt Go.RowKit Go.Joins Go.Deep
open Go.Abs (VRels VRel LRel ghOf noL Lives Live AV Own Pure Gh)
open Go.Abs.Seat (ivs nl ivs_len IL)
section
variable {H:Type} {enc:TypeId × Value → H} {P:Program} {w:World} {base:Nat} {spare:Nat → Bool} {held:Bool}
end
end Go.Proofs.YtlmadgdonalncaaGreatDoor

/-! A bill as argument, opened. -/
namespace Go.Proofs.YtlmadgdonalncaaGreatDoor
open Go.ChangeShapes Go.WideShapes Go.ChangeAt Go.RowKit Go.Joins Go.Deep
open Go.Abs (VRels VRel LRel ghOf noL Lives Live AV Own Pure Gh)
open Go.Abs.Seat (ivs nl ivs_len IL bv)
section
variable {H:Type} {enc:TypeId × Value → H} {P:Program} {w:World} {base:Nat} {spare:Nat → Bool} {held:Bool}
end
end Go.Proofs.YtlmadgdonalncaaGreatDoor

/-! Lists of three numbers each as arguments, opened; pieces. -/
namespace Go.Proofs.YtlmadgdonalncaaGreatDoor
open Go.ChangeShapes Go.WideShapes Go.ChangeAt Go.RowKit Go.Joins Go.Deep
open Go.Abs (VRels VRel LRel ghOf noL Lives Live AV Own Pure Gh)
open Go.Abs.Seat (ivs nl ivs_len IL lks lkA LkI LL lks_len lkA_no)
section
variable {H:Type} {enc:TypeId × Value → H} {P:Program} {w:World} {base:Nat} {spare:Nat → Bool} {held:Bool}
end
end Go.Proofs.YtlmadgdonalncaaGreatDoor

