/-
  TrainReads: the given card: whatever the input, the call returns true, and the input reads as it did.
-/
import Derived.Test.YtnimgfkggbnjoaaGreatDoorXL61
import Derived.Test.YtnimgfkggbnjoaaGreatDoorXU16
import Derived.Test.YtnimgfkggbnjoaaGreatDoorXU17
namespace Go.Proofs.YtnimgfkggbnjoaaGreatDoor
open Go.ChangeShapes Go.WideShapes Go.ChangeAt Go.RowKit Go.Joins
open Go.Abs (VRels VRel ghOf noL Lives Live AV Own Pure)
theorem str_rel (g : Go.Abs.Gh) (w : World) (s : ByteArray) : Go.Abs.VRel g w (.str s.data.toList) (.string s) := by
 cases s
 simp [Go.Abs.VRel]
set_option maxRecDepth 100000 in
theorem trainReads_lifted (os : Os) (started : os.Started) (H : Type) (enc : TypeId × Value → H) :
  ReturnsInHanded {} Tryz.checked os 4 .any (fun w args => (Rows.trainReadsSpec.pre enc Tryz.prog Tryz.f4 [] false w args ∧ laidMetH Tryz.prog listed w) ∧ sizedMet enc Tryz.prog Tryz.f4 (OpenSpec.ofChange Rows.trainReadsSpec) false w args)
   (Rows.trainReadsSpec.post enc Tryz.prog Tryz.f4 false true false false) := by
 refine returnsInHanded_of_change_and (C := Tryz.checked) (X := fun w _ => laidMetH Tryz.prog listed w) (fun _ _ _ hh h => h.of_heap hh) ownKnobNone started (by kernel_rfl) Tryz.func4
  (ChangeSpec.witness_shaped (enc := enc) (C := Tryz.checked) (os := os) (X := fun w _ => laidMetH Tryz.prog listed w) false (World.laidAll Tryz.prog os listed) #[.string ⟨#[]⟩] 8 (World.laidAll_os _ _ _)
   (World.shaped_of_ZipB (by kernel_rfl) (by kernel_rfl)) (by kernel_rfl) (by kernel_rfl) (by kernel_rfl) (listed_met os _)) ?_
 intro W base args ds gs before hval0 hW _ _ hlaid _
 have hval : ∀ (j : Nat) t v, Tryz.f4.params[j]? = some t → args[j]? = some v → Value.okWide Tryz.prog W .any base t v := hval0
 have hW2 := hW
 obtain ⟨p, q, hA0, hV, rfl, _, _⟩ := hW
 have hA : DataW.TrodAll enc Tryz.prog W 0 (fun _ => true) true Tryz.f4.params.toList args.toList ds p := hA0
 rw [Tryz.params4] at hA hval
 obtain ⟨v0, d0, rfl, rfl, h0⟩ := trodAll_one hA
 obtain ⟨rfl, rfl⟩ := trodVars_none hV
 obtain ⟨s0, rfl, rfl, rfl, _⟩ := Go.ChangeMaps.open_string Tryz.underlying9 (hval 0 9 v0 rfl rfl) h0
 refine (Pure.callsAt (Go.Abs.Seat.readsT_law Go.Abs.Seat.pknown s0.data.toList) (fun _ => 4) (laid_gok hlaid (by omega)) (w := W) (vs := #[.string s0])
  (.one (str_rel _ _ s0) rfl) ⟨trivial, trivial⟩).mono fun e W2 ⟨he, hb⟩ => ?_
 subst he
 exact ⟨_, rfl, law_post laidOutProg (by kernel_rfl) rfl Tryz.underlying4 rfl rfl hW2 hb⟩

theorem trainReads_holds : Rows.TrainReadsSaid :=
 OpenClaim.holds_of_wide 4 Tryz.f4 rfl rfl rfl rfl rfl rfl rfl ⟨rfl, rfl, rfl, rfl, rfl⟩ rfl rfl rfl rfl rfl (by kernel_rfl) Tryz.func4 (by kernel_rfl)
  (of_decide_eq_true (by kernel_rfl)) (by unfold Func.isWrapper; first | (rw [if_pos (by decide +kernel)]; kernel_rfl) | (rw [if_neg (by decide +kernel)]; exact ⟨rfl, rfl⟩))
  (fun os started H enc _ => trainReads_lifted os started H enc)

theorem trainReads_card : Rows.TrainReadsCardSaid :=
 Claim7.holds_tied_plain_at .later [] [.data, .data, .data, .data, .pinned] true (true, "77bf2491d2987bb7d10a4a80eea09577dbd85ab7733cb6b1c0afbb2ab7e00066") true trainReads_holds (fun _ h => by cases h) (by kernel_rfl) (fun _ h => by cases h) trainReads_row_tie rfl ⟨rfl, rfl⟩ (by kernel_rfl) rfl
  (fun f fn hf hfn => by
   obtain rfl : f = 4 := Option.some.inj ((show Tryz.prog.funcNamed "tellurion/tellurionlaw01.TrainReads" = some 4 by kernel_rfl).symm.trans hf) |>.symm
   obtain rfl : fn = Tryz.f4 := (Option.some.inj (Tryz.func4.symm.trans hfn)).symm
   exact ⟨by kernel_rfl, fun j t ht => by
    rw [Tryz.params4] at ht
    have hm : t ∈ [9] := by simpa using Array.mem_of_getElem? ht
    have hall : ([9].all fun u => !Tryz.prog.wantsStandIn u) = true := by kernel_rfl
    exact (show Tryz.prog.wantsStandIn t = false by simpa using List.all_eq_true.1 hall t hm)⟩)
  (by kernel_rfl)
#print axioms trainReads_card
end Go.Proofs.YtnimgfkggbnjoaaGreatDoor
