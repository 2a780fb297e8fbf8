/-
  ShopRefuses: the given card: whatever the input, the call returns true, and the input reads as it did.
-/
import Derived.Test.YtlmadgdonalncaaGreatDoorL44
import Derived.Test.YtlmadgdonalncaaGreatDoorU21
import Derived.Test.YtlmadgdonalncaaGreatDoorU23
namespace Go.Proofs.YtlmadgdonalncaaGreatDoor
open Go.ChangeShapes Go.WideShapes Go.ChangeAt Go.RowKit Go.Joins
open Go.Abs (VRels VRel ghOf noL Lives Live AV Own Pure)
set_option maxRecDepth 100000 in
theorem shopRefuses_lifted (os : Os) (started : os.Started) (H : Type) (enc : TypeId × Value → H) :
  ReturnsInHanded {} Tryz.checked os 7 .any (fun w args => (Rows.shopRefusesSpec.pre enc Tryz.prog Tryz.f7 [] false w args ∧ laidMetH Tryz.prog listed w) ∧ sizedMet enc Tryz.prog Tryz.f7 (OpenSpec.ofChange Rows.shopRefusesSpec) false w args)
   (Rows.shopRefusesSpec.post enc Tryz.prog Tryz.f7 false true false false) := by
 refine returnsInHanded_of_change_and (C := Tryz.checked) (X := fun w _ => laidMetH Tryz.prog listed w) (fun _ _ _ hh h => h.of_heap hh) ownKnobNone started (by kernel_rfl) Tryz.func7
  (ChangeSpec.witness_shaped (enc := enc) (C := Tryz.checked) (os := os) (X := fun w _ => laidMetH Tryz.prog listed w) false (World.laidAll Tryz.prog os listed) #[.slice none 0 0, .slice none 0 0] 8 (World.laidAll_os _ _ _)
   (World.shaped_of_ZipB (by kernel_rfl) (by kernel_rfl)) (by kernel_rfl) (by kernel_rfl) (by kernel_rfl) (listed_met os _)) ?_
 intro W base args ds gs before hval0 hW _ _ _ _
 have hval : ∀ (j : Nat) t v, Tryz.f7.params[j]? = some t → args[j]? = some v → Value.okWide Tryz.prog W .any base t v := hval0
 have hW2 := hW
 obtain ⟨p, q, hA0, hV, rfl, _, _⟩ := hW
 have hA : DataW.TrodAll enc Tryz.prog W 0 (fun _ => true) true Tryz.f7.params.toList args.toList ds p := hA0
 rw [Tryz.params7] at hA hval
 obtain ⟨v0, v1, d0, d1, p0, p1, rfl, rfl, rfl, h0, h1⟩ := trodAll_two hA
 obtain ⟨rfl, rfl⟩ := trodVars_none hV
 obtain ⟨x0, k0, N0, l0, t0, R0⟩ := trips_arg Tryz.underlying40 (by kernel_rfl) (trI_struct3 Tryz.underlying55 rfl rfl rfl (by kernel_rfl) (by kernel_rfl) (by kernel_rfl) (by kernel_rfl) (trI_int Tryz.underlying3 (by kernel_rfl)) (trI_int Tryz.underlying3 (by kernel_rfl)) (trI_int Tryz.underlying3 (by kernel_rfl))) (hval 0 40 v0 rfl rfl) h0
 obtain ⟨x1, k1, N1, l1, t1, R1⟩ := trips_arg Tryz.underlying41 (by kernel_rfl) (trI_struct3 Tryz.underlying53 rfl rfl rfl (by kernel_rfl) (by kernel_rfl) (by kernel_rfl) (by kernel_rfl) (trI_int Tryz.underlying3 (by kernel_rfl)) (trI_int Tryz.underlying3 (by kernel_rfl)) (trI_int Tryz.underlying3 (by kernel_rfl))) (hval 1 41 v1 rfl rfl) h1
 refine (Pure.callsAt (Go.Abs.Seat.shopRefuses Go.Abs.Seat.pknown t0 t1) (fun _ => N0 + N1) (w := W) (vs := #[v0, v1])
  (.one (R0 _ (by omega)) (.one (R1 _ (by omega)) rfl)) ⟨l0, l1, trivial⟩).mono fun e W2 ⟨he, hb⟩ => ?_
 subst he
 exact ⟨_, rfl, law_post laidOutProg (by kernel_rfl) rfl Tryz.underlying4 rfl rfl hW2 hb⟩

theorem shopRefuses_holds : Rows.ShopRefusesSaid :=
 OpenClaim.holds_of_wide 7 Tryz.f7 rfl rfl rfl rfl rfl rfl rfl ⟨rfl, rfl, rfl, rfl, rfl⟩ rfl rfl rfl rfl rfl (by kernel_rfl) Tryz.func7 (by kernel_rfl)
  (of_decide_eq_true (by kernel_rfl)) (by unfold Func.isWrapper; first | (rw [if_pos (by decide +kernel)]; kernel_rfl) | (rw [if_neg (by decide +kernel)]; exact ⟨rfl, rfl⟩))
  (fun os started H enc _ => shopRefuses_lifted os started H enc)

theorem shopRefuses_card : Rows.ShopRefusesCardSaid :=
 Claim7.holds_tied_plain_at .later [] [.data, .data, .data, .data, .pinned] true (true, "60b469ea42033640b1891e3a380a631c71d43b076c90fd14a96666f986b8abc6") true shopRefuses_holds (fun _ h => by cases h) (by kernel_rfl) (fun _ h => by cases h) shopRefuses_row_tie rfl ⟨rfl, rfl⟩ (by kernel_rfl) rfl
  (fun f fn hf hfn => by
   obtain rfl : f = 7 := Option.some.inj ((show Tryz.prog.funcNamed "tellurion/tellurionlaw09.ShopRefuses" = some 7 by kernel_rfl).symm.trans hf) |>.symm
   obtain rfl : fn = Tryz.f7 := (Option.some.inj (Tryz.func7.symm.trans hfn)).symm
   exact ⟨by kernel_rfl, fun j t ht => by
    rw [Tryz.params7] at ht
    have hm : t ∈ [40, 41] := by simpa using Array.mem_of_getElem? ht
    have hall : ([40, 41].all fun u => !Tryz.prog.wantsStandIn u) = true := by kernel_rfl
    exact (show Tryz.prog.wantsStandIn t = false by simpa using List.all_eq_true.1 hall t hm)⟩)
  (by kernel_rfl)
#print axioms shopRefuses_card
end Go.Proofs.YtlmadgdonalncaaGreatDoor
