/-
  ShopPrints: the given card: whatever the input, the call returns true, and the input reads as it did.
-/
import Derived.Test.YtlmadgdonalncaaGreatDoorL49
import Derived.Test.YtlmadgdonalncaaGreatDoorU16
import Derived.Test.YtlmadgdonalncaaGreatDoorU17
namespace Go.Proofs.YtlmadgdonalncaaGreatDoor
open Go.ChangeShapes Go.WideShapes Go.ChangeAt Go.RowKit Go.Joins
open Go.Abs (VRels VRel ghOf noL Lives Live AV Own Pure)
set_option maxRecDepth 100000 in
theorem shopPrints_lifted (os : Os) (started : os.Started) (H : Type) (enc : TypeId × Value → H) :
  ReturnsInHanded {} Tryz.checked os 10 .any (fun w args => (Rows.shopPrintsSpec.pre enc Tryz.prog Tryz.f10 [] false w args ∧ laidMetH Tryz.prog listed w) ∧ sizedMet enc Tryz.prog Tryz.f10 (OpenSpec.ofChange Rows.shopPrintsSpec) false w args)
   (Rows.shopPrintsSpec.post enc Tryz.prog Tryz.f10 false true false false) := by
 refine returnsInHanded_of_change_and (C := Tryz.checked) (X := fun w _ => laidMetH Tryz.prog listed w) (fun _ _ _ hh h => h.of_heap hh) ownKnobNone started (by kernel_rfl) Tryz.func10
  (ChangeSpec.witness_shaped (enc := enc) (C := Tryz.checked) (os := os) (X := fun w _ => laidMetH Tryz.prog listed w) false (World.laidAll Tryz.prog os listed) #[.agg #[.slice none 0 0, .slice none 0 0]] 8 (World.laidAll_os _ _ _)
   (World.shaped_of_ZipB (by kernel_rfl) (by kernel_rfl)) (by kernel_rfl) (by kernel_rfl) (by kernel_rfl) (listed_met os _)) ?_
 intro W base args ds gs before hval0 hW _ _ _ _
 have hval : ∀ (j : Nat) t v, Tryz.f10.params[j]? = some t → args[j]? = some v → Value.okWide Tryz.prog W .any base t v := hval0
 have hW2 := hW
 obtain ⟨p, q, hA0, hV, rfl, _, _⟩ := hW
 have hA : DataW.TrodAll enc Tryz.prog W 0 (fun _ => true) true Tryz.f10.params.toList args.toList ds p := hA0
 rw [Tryz.params10] at hA hval
 obtain ⟨v0, d0, rfl, rfl, h0⟩ := trodAll_one hA
 obtain ⟨rfl, rfl⟩ := trodVars_none hV
 obtain ⟨x0, y0, k0, j0, N0, l0, m0, t0, s0, R0⟩ := piece_arg Tryz.underlying64 (by kernel_rfl) (by kernel_rfl) (by kernel_rfl) Tryz.underlying62 (by kernel_rfl) (trI_struct2 Tryz.underlying94 rfl (by kernel_rfl) (by kernel_rfl) (trI_int Tryz.underlying3 (by kernel_rfl)) (trI_struct2 Tryz.underlying86 rfl (by kernel_rfl) (by kernel_rfl) (trI_int Tryz.underlying3 (by kernel_rfl)) (trI_int Tryz.underlying3 (by kernel_rfl)))) Tryz.underlying24 (by kernel_rfl) Tryz.underlying3 (hval 0 64 v0 rfl rfl) h0
 refine (Pure.callsAt (Go.Abs.Seat.prints_law Go.Abs.Seat.pknown t0 s0) (fun _ => N0) (w := W) (vs := #[v0])
  (.one (R0 _ (by omega)) rfl) ⟨⟨l0, m0, trivial⟩, trivial⟩).mono fun e W2 ⟨he, hb⟩ => ?_
 subst he
 exact ⟨_, rfl, law_post laidOutProg (by kernel_rfl) rfl Tryz.underlying4 rfl rfl hW2 hb⟩

theorem shopPrints_holds : Rows.ShopPrintsSaid :=
 OpenClaim.holds_of_wide 10 Tryz.f10 rfl rfl rfl rfl rfl rfl rfl ⟨rfl, rfl, rfl, rfl, rfl⟩ rfl rfl rfl rfl rfl (by kernel_rfl) Tryz.func10 (by kernel_rfl)
  (of_decide_eq_true (by kernel_rfl)) (by unfold Func.isWrapper; first | (rw [if_pos (by decide +kernel)]; kernel_rfl) | (rw [if_neg (by decide +kernel)]; exact ⟨rfl, rfl⟩))
  (fun os started H enc _ => shopPrints_lifted os started H enc)

theorem shopPrints_card : Rows.ShopPrintsCardSaid :=
 Claim7.holds_tied_plain_at .later [] [.data, .data, .data, .data, .pinned] true (true, "60b469ea42033640b1891e3a380a631c71d43b076c90fd14a96666f986b8abc6") true shopPrints_holds (fun _ h => by cases h) (by kernel_rfl) (fun _ h => by cases h) shopPrints_row_tie rfl ⟨rfl, rfl⟩ (by kernel_rfl) rfl
  (fun f fn hf hfn => by
   obtain rfl : f = 10 := Option.some.inj ((show Tryz.prog.funcNamed "tellurion/tellurionlaw09.ShopPrints" = some 10 by kernel_rfl).symm.trans hf) |>.symm
   obtain rfl : fn = Tryz.f10 := (Option.some.inj (Tryz.func10.symm.trans hfn)).symm
   exact ⟨by kernel_rfl, fun j t ht => by
    rw [Tryz.params10] at ht
    have hm : t ∈ [64] := by simpa using Array.mem_of_getElem? ht
    have hall : ([64].all fun u => !Tryz.prog.wantsStandIn u) = true := by kernel_rfl
    exact (show Tryz.prog.wantsStandIn t = false by simpa using List.all_eq_true.1 hall t hm)⟩)
  (by kernel_rfl)
#print axioms shopPrints_card
end Go.Proofs.YtlmadgdonalncaaGreatDoor
