/-
  TrainSpoilt: the given card: whatever the input, the call returns true, and the input reads as it did.
-/
import Derived.Test.YtnimgfkggbnjoaaGreatDoorVL62
import Derived.Test.YtnimgfkggbnjoaaGreatDoorVU16
import Derived.Test.YtnimgfkggbnjoaaGreatDoorVU17
namespace Go.Proofs.YtnimgfkggbnjoaaGreatDoor
open Go.ChangeShapes Go.WideShapes Go.ChangeAt Go.RowKit Go.Joins
open Go.Abs (VRels VRel ghOf noL Lives Live AV Own Pure)
set_option maxRecDepth 100000 in
theorem trainSpoilt_lifted (os : Os) (started : os.Started) (H : Type) (enc : TypeId × Value → H) :
  ReturnsInHanded {} Tryz.checked os 5 .any (fun w args => (Rows.trainSpoiltSpec.pre enc Tryz.prog Tryz.f5 [] false w args ∧ laidMetH Tryz.prog listed w) ∧ sizedMet enc Tryz.prog Tryz.f5 (OpenSpec.ofChange Rows.trainSpoiltSpec) false w args)
   (Rows.trainSpoiltSpec.post enc Tryz.prog Tryz.f5 false true false false) := by
 refine returnsInHanded_of_change_and (C := Tryz.checked) (X := fun w _ => laidMetH Tryz.prog listed w) (fun _ _ _ hh h => h.of_heap hh) ownKnobNone started (by kernel_rfl) Tryz.func5
  (ChangeSpec.witness_shaped (enc := enc) (C := Tryz.checked) (os := os) (X := fun w _ => laidMetH Tryz.prog listed w) false (World.laidAll Tryz.prog os listed) #[.agg #[.int .i64 0, .int .i64 0, .int .i64 0, .int .i64 0, .slice none 0 0], .slice none 0 0, .int .i64 0, .int .i64 0] 8 (World.laidAll_os _ _ _)
   (World.shaped_of_ZipB (by kernel_rfl) (by kernel_rfl)) (by kernel_rfl) (by kernel_rfl) (by kernel_rfl) (listed_met os _)) ?_
 intro W base args ds gs before hval0 hW _ _ hlaid _
 have hval : ∀ (j : Nat) t v, Tryz.f5.params[j]? = some t → args[j]? = some v → Value.okWide Tryz.prog W .any base t v := hval0
 have hW2 := hW
 obtain ⟨p, q, hA0, hV, rfl, _, _⟩ := hW
 have hA : DataW.TrodAll enc Tryz.prog W 0 (fun _ => true) true Tryz.f5.params.toList args.toList ds p := hA0
 rw [Tryz.params5] at hA hval
 obtain ⟨v0, v1, v2, v3, d0, d1, d2, d3, p0, p1, p2, p3, rfl, rfl, rfl, h0, h1, h2, h3⟩ := trodAll_four hA
 obtain ⟨rfl, rfl⟩ := trodVars_none hV
 obtain ⟨ra0, rb0, rc0, rs0, x0, k0, N0, l0, t0, u0, R0⟩ := rule_arg (u0 := 3) (u1 := 3) (u2 := 3) (u3 := 22) Tryz.underlying25 (by kernel_rfl) (by kernel_rfl) (by kernel_rfl) Tryz.underlying3 Tryz.underlying3 Tryz.underlying3 Tryz.underlying22 Tryz.underlying23 (by kernel_rfl) Tryz.underlying3 (hval 0 25 v0 rfl rfl) h0
 obtain ⟨x1, k1, N1, l1, t1, R1⟩ := trains_arg Tryz.underlying26 (by kernel_rfl) Tryz.underlying45 Tryz.underlying74 (by kernel_rfl) rfl rfl (by kernel_rfl) (by kernel_rfl) Tryz.underlying3 Tryz.underlying3 (hval 1 26 v1 rfl rfl) h1
 obtain ⟨a2, rfl, rfl, rfl, _⟩ := open_int Tryz.underlying3 (hval 2 3 v2 rfl rfl) h2
 obtain ⟨a3, rfl, rfl, rfl, _⟩ := open_int Tryz.underlying3 (hval 3 3 v3 rfl rfl) h3
 refine (Pure.callsAt (Go.Abs.Seat.spoiltT_law Go.Abs.Seat.pknown ra0 rb0 rc0 rs0 u0 t0 t1 a2 a3) (fun _ => N0 + N1 + 4) (laid_gok hlaid (by omega)) (w := W) (vs := #[v0, v1, .int .i64 a2, .int .i64 a3])
  (.one (R0 _ (by omega)) (.one (R1 _ (by omega)) (.one rfl (.one rfl rfl)))) ⟨⟨trivial, trivial, trivial, trivial, l0, trivial⟩, l1, trivial, trivial, trivial⟩).mono fun e W2 ⟨he, hb⟩ => ?_
 subst he
 exact ⟨_, rfl, law_post laidOutProg (by kernel_rfl) rfl Tryz.underlying4 rfl rfl hW2 hb⟩

theorem trainSpoilt_holds : Rows.TrainSpoiltSaid :=
 OpenClaim.holds_of_wide 5 Tryz.f5 rfl rfl rfl rfl rfl rfl rfl ⟨rfl, rfl, rfl, rfl, rfl⟩ rfl rfl rfl rfl rfl (by kernel_rfl) Tryz.func5 (by kernel_rfl)
  (of_decide_eq_true (by kernel_rfl)) (by unfold Func.isWrapper; first | (rw [if_pos (by decide +kernel)]; kernel_rfl) | (rw [if_neg (by decide +kernel)]; exact ⟨rfl, rfl⟩))
  (fun os started H enc _ => trainSpoilt_lifted os started H enc)

theorem trainSpoilt_card : Rows.TrainSpoiltCardSaid :=
 Claim7.holds_tied_plain_at .later [] [.data, .data, .data, .data, .pinned] true (true, "77bf2491d2987bb7d10a4a80eea09577dbd85ab7733cb6b1c0afbb2ab7e00066") true trainSpoilt_holds (fun _ h => by cases h) (by kernel_rfl) (fun _ h => by cases h) trainSpoilt_row_tie rfl ⟨rfl, rfl⟩ (by kernel_rfl) rfl
  (fun f fn hf hfn => by
   obtain rfl : f = 5 := Option.some.inj ((show Tryz.prog.funcNamed "tellurion/tellurionlaw01.TrainSpoilt" = some 5 by kernel_rfl).symm.trans hf) |>.symm
   obtain rfl : fn = Tryz.f5 := (Option.some.inj (Tryz.func5.symm.trans hfn)).symm
   exact ⟨by kernel_rfl, fun j t ht => by
    rw [Tryz.params5] at ht
    have hm : t ∈ [25, 26, 3, 3] := by simpa using Array.mem_of_getElem? ht
    have hall : ([25, 26, 3, 3].all fun u => !Tryz.prog.wantsStandIn u) = true := by kernel_rfl
    exact (show Tryz.prog.wantsStandIn t = false by simpa using List.all_eq_true.1 hall t hm)⟩)
  (by kernel_rfl)
#print axioms trainSpoilt_card
end Go.Proofs.YtnimgfkggbnjoaaGreatDoor
