/-
  ShopSpoils: the given card: whatever the input, the call returns true, and the input reads as it did.
-/
import Derived.Test.YtikikanopganaaaGreatDoorL31
import Derived.Test.YtikikanopganaaaGreatDoorU14
import Derived.Test.YtikikanopganaaaGreatDoorU15
/-! ShopSpoils: the given card: whatever the input, the call returns true, and the input reads as it did. -/
namespace Go.Proofs.YtikikanopganaaaGreatDoor
open Go.ChangeShapes Go.WideShapes Go.ChangeAt Go.RowKit Go.Joins
open Go.Abs (VRels VRel ghOf noL Lives Live AV Own Pure)

set_option maxRecDepth 100000 in
theorem shopSpoils_lifted (os : Os) (started : os.Started) (H : Type) (enc : TypeId × Value → H) :
  ReturnsInHanded {} Tryz.checked os 6 .any (fun w args => (Rows.shopSpoilsSpec.pre enc Tryz.prog Tryz.f6 [] false w args ∧ laidMetH Tryz.prog listed w) ∧ sizedMet enc Tryz.prog Tryz.f6 (OpenSpec.ofChange Rows.shopSpoilsSpec) false w args)
   (Rows.shopSpoilsSpec.post enc Tryz.prog Tryz.f6 false true false false) := by
 refine returnsInHanded_of_change_and (C := Tryz.checked) (X := fun w _ => laidMetH Tryz.prog listed w) (fun _ _ _ hh h => h.of_heap hh) ownKnobNone started (by kernel_rfl) Tryz.func6
  (ChangeSpec.witness_shaped (enc := enc) (C := Tryz.checked) (os := os) (X := fun w _ => laidMetH Tryz.prog listed w) false (World.laidAll Tryz.prog os listed) #[.agg #[.slice none 0 0, .slice none 0 0], .agg #[.int .i64 0, .int .i64 0, .int .i64 0]] 8 (World.laidAll_os _ _ _)
   (World.shaped_of_ZipB (by kernel_rfl) (by kernel_rfl)) (by kernel_rfl) (by kernel_rfl) (by kernel_rfl) (listed_met os _)) ?_
 intro W base args ds gs before hval0 hW _ _ _ _
 have hval : ∀ (j : Nat) t v, Tryz.f6.params[j]? = some t → args[j]? = some v → Value.okWide Tryz.prog W .any base t v := hval0
 have hW2 := hW
 obtain ⟨p, q, hA0, hV, rfl, _, _⟩ := hW
 have hA : DataW.TrodAll enc Tryz.prog W 0 (fun _ => true) true Tryz.f6.params.toList args.toList ds p := hA0
 rw [Tryz.params6] at hA hval
 obtain ⟨v0, v1, d0, d1, p0, p1, rfl, rfl, rfl, h0, h1⟩ := trodAll_two hA
 obtain ⟨rfl, rfl⟩ := trodVars_none hV
 obtain ⟨x0, y0, k0, j0, N0, l0, m0, t0, s0, R0⟩ := piece_arg Tryz.underlying34 (by kernel_rfl) (by kernel_rfl) (by kernel_rfl) Tryz.underlying32 (by kernel_rfl) (trI_struct2 Tryz.underlying73 rfl (by kernel_rfl) (by kernel_rfl) (trI_int Tryz.underlying3 (by kernel_rfl)) (trI_struct2 Tryz.underlying64 rfl (by kernel_rfl) (by kernel_rfl) (trI_int Tryz.underlying3 (by kernel_rfl)) (trI_int Tryz.underlying3 (by kernel_rfl)))) Tryz.underlying22 (by kernel_rfl) Tryz.underlying3 (hval 0 34 v0 rfl rfl) h0
 obtain ⟨a1, b1, c1, rfl⟩ := trip_arg Tryz.underlying66 (by kernel_rfl) (trI_struct2 Tryz.underlying66 rfl (by kernel_rfl) (by kernel_rfl) (trI_int Tryz.underlying3 (by kernel_rfl)) (trI_struct2 Tryz.underlying64 rfl (by kernel_rfl) (by kernel_rfl) (trI_int Tryz.underlying3 (by kernel_rfl)) (trI_int Tryz.underlying3 (by kernel_rfl)))) (hval 1 66 v1 rfl rfl) h1
 refine (Pure.callsAt (Go.Abs.Seat.shopSpoils Go.Abs.Seat.pknown t0 s0 a1 b1 c1) (fun _ => N0) (w := W) (vs := #[v0, .agg #[.int .i64 a1, .int .i64 b1, .int .i64 c1]])
  (.one (R0 _ (by omega)) (.one (.agg' (.one rfl (.one rfl (.one rfl rfl)))) rfl)) ⟨⟨l0, m0, trivial⟩, ⟨trivial, trivial, trivial, trivial⟩, trivial⟩).mono fun e W2 ⟨he, hb⟩ => ?_
 subst he
 exact ⟨_, rfl, law_post laidOutProg (by kernel_rfl) rfl Tryz.underlying4 rfl rfl hW2 hb⟩

theorem shopSpoils_holds : Rows.ShopSpoilsSaid :=
 OpenClaim.holds_of_wide 6 Tryz.f6 rfl rfl rfl rfl rfl rfl rfl ⟨rfl, rfl, rfl, rfl, rfl⟩ rfl rfl rfl rfl rfl (by kernel_rfl) Tryz.func6 (by kernel_rfl)
  (of_decide_eq_true (by kernel_rfl)) (by unfold Func.isWrapper; first | (rw [if_pos (by decide +kernel)]; kernel_rfl) | (rw [if_neg (by decide +kernel)]; exact ⟨rfl, rfl⟩))
  (fun os started H enc _ => shopSpoils_lifted os started H enc)

theorem shopSpoils_card : Rows.ShopSpoilsCardSaid :=
 Claim7.holds_tied_plain_at .later [] [.data, .data, .data, .data, .pinned] true (true, "c0b59ad1ed21faea454f67e1167a6a8e291c40d078e953466ad8692d44a4c4ce") true shopSpoils_holds (fun _ h => by cases h) (by kernel_rfl) (fun _ h => by cases h) shopSpoils_row_tie rfl ⟨rfl, rfl⟩ (by kernel_rfl) rfl
  (fun f fn hf hfn => by
   obtain rfl : f = 6 := Option.some.inj ((show Tryz.prog.funcNamed "tellurion/tellurionlaw09.ShopSpoils" = some 6 by kernel_rfl).symm.trans hf) |>.symm
   obtain rfl : fn = Tryz.f6 := (Option.some.inj (Tryz.func6.symm.trans hfn)).symm
   exact ⟨by kernel_rfl, fun j t ht => by
    rw [Tryz.params6] at ht
    have hm : t ∈ [34, 66] := by simpa using Array.mem_of_getElem? ht
    have hall : ([34, 66].all fun u => !Tryz.prog.wantsStandIn u) = true := by kernel_rfl
    exact (show Tryz.prog.wantsStandIn t = false by simpa using List.all_eq_true.1 hall t hm)⟩)
  (by kernel_rfl)
#print axioms shopSpoils_card
end Go.Proofs.YtikikanopganaaaGreatDoor
