/-
  TrainNearers: the given card: whatever the input, the call returns true, and the input reads as it did.
-/
import Derived.Test.YtgojpjbbahljeaaGreatDoorMV
import Derived.Test.YtgojpjbbahljeaaGreatDoorL4
/-! TrainNearers: the given card: whatever the input, the call returns true, and the input reads as it did. -/
namespace Go.Proofs.YtgojpjbbahljeaaGreatDoor
open Go.ChangeShapes Go.WideShapes Go.ChangeAt Go.RowKit Go.Joins
open Go.Abs (VRels VRel ghOf noL Lives Live AV Own Pure)

set_option maxRecDepth 100000 in
theorem trainNearers_lifted (os : Os) (started : os.Started) (H : Type) (enc : TypeId × Value → H) :
    ReturnsInHanded {} Tryz.checked os 10 .any (fun w args => (Rows.trainNearersSpec.pre enc Tryz.prog Tryz.f10 [] false w args ∧ laidMetH Tryz.prog listed w) ∧ sizedMet enc Tryz.prog Tryz.f10 (OpenSpec.ofChange Rows.trainNearersSpec) false w args)
      (Rows.trainNearersSpec.post enc Tryz.prog Tryz.f10 false true false false) := by
  refine returnsInHanded_of_change_and (C := Tryz.checked) (X := fun w _ => laidMetH Tryz.prog listed w) (fun _ _ _ hh h => h.of_heap hh) ownKnobNone started (by kernel_rfl) Tryz.func10
    (ChangeSpec.witness_shaped (enc := enc) (C := Tryz.checked) (os := os) (X := fun w _ => laidMetH Tryz.prog listed w) false (World.laidAll Tryz.prog os listed) #[.agg #[.int .i64 0, .int .i64 0], .slice none 0 0, .slice none 0 0] 8 (World.laidAll_os _ _ _)
      (World.shaped_of_ZipB (by kernel_rfl) (by kernel_rfl)) (by kernel_rfl) (by kernel_rfl) (by kernel_rfl) (listed_met os _)) ?_
  intro W base args ds gs before hval0 hW _ _ _ _
  have hval : ∀ (j : Nat) t v, Tryz.f10.params[j]? = some t → args[j]? = some v → Value.okWide Tryz.prog W .any base t v := hval0
  have hW2 := hW
  obtain ⟨p, q, hA0, hV, rfl, _, _⟩ := hW
  have hA : DataW.TrodAll enc Tryz.prog W 0 (fun _ => true) true Tryz.f10.params.toList args.toList ds p := hA0
  rw [Tryz.params10] at hA hval
  obtain ⟨v0, v1, v2, d0, d1, d2, p0, p1, p2, rfl, rfl, rfl, h0, h1, h2⟩ := trodAll_three hA
  obtain ⟨rfl, rfl⟩ := trodVars_none hV
  obtain ⟨c0, e0, y0, z0, m0, rfl, rfl, rfl, hy0, hz0⟩ := open_agg2 Tryz.underlying23 (by kernel_rfl) (by kernel_rfl) (hval 0 23 v0 rfl rfl) h0
  obtain ⟨a0, q0, rfl, _⟩ := DataW.trod_int Tryz.underlying3 hy0
  obtain ⟨b0, r0, rfl, _⟩ := DataW.trod_int Tryz.underlying3 hz0
  simp at q0 r0
  subst q0 r0
  obtain ⟨x1, k1, N1, l1, t1, R1⟩ := train_arg Tryz.underlying51 Tryz.underlying102 (by kernel_rfl) rfl rfl (by kernel_rfl) (by kernel_rfl) Tryz.underlying3 Tryz.underlying3 (hval 1 51 v1 rfl rfl) h1
  obtain ⟨x2, k2, N2, l2, t2, R2⟩ := train_arg Tryz.underlying51 Tryz.underlying102 (by kernel_rfl) rfl rfl (by kernel_rfl) (by kernel_rfl) Tryz.underlying3 Tryz.underlying3 (hval 2 51 v2 rfl rfl) h2
  refine (Pure.callsAt (Go.Abs.Seat.trainNearers Go.Abs.Seat.pknown a0 b0 t1 t2) (fun _ => N1 + N2) (w := W) (vs := #[.agg #[.int .i64 a0, .int .i64 b0], v1, v2])
    (.one (.agg' (.one rfl (.one rfl rfl))) (.one (R1 _ (by omega)) (.one (R2 _ (by omega)) rfl))) ⟨⟨trivial, trivial, trivial⟩, l1, l2, trivial⟩).mono fun e W2 ⟨he, hb⟩ => ?_
  subst he
  exact ⟨_, rfl, law_post laidOutProg (by kernel_rfl) rfl Tryz.underlying4 rfl rfl hW2 hb⟩

theorem trainNearers_holds : Rows.TrainNearersSaid :=
  OpenClaim.holds_of_wide 10 Tryz.f10 rfl rfl rfl rfl rfl rfl rfl ⟨rfl, rfl, rfl, rfl, rfl⟩ rfl rfl rfl rfl rfl (by kernel_rfl) Tryz.func10 (by kernel_rfl)
    (of_decide_eq_true (by kernel_rfl)) (by unfold Func.isWrapper; first | (rw [if_pos (by decide +kernel)]; kernel_rfl) | (rw [if_neg (by decide +kernel)]; exact ⟨rfl, rfl⟩))
    (fun os started H enc _ => trainNearers_lifted os started H enc)

theorem trainNearers_card : Rows.TrainNearersCardSaid :=
  Claim7.holds_tied_plain_at .later [] [.data, .data, .data, .data, .pinned] true (true, "7151dac5c426226c6d1af32e19215cfe9c04ed9f6e4014c30e8b28baad8e670c") true trainNearers_holds (fun _ h => by cases h) (by kernel_rfl) (fun _ h => by cases h) trainNearers_row_tie rfl ⟨rfl, rfl⟩ (by kernel_rfl) rfl
    (fun f fn hf hfn => by
      obtain rfl : f = 10 := Option.some.inj ((show Tryz.prog.funcNamed "tellurion/tellurionlaw01.TrainNearers" = some 10 by kernel_rfl).symm.trans hf) |>.symm
      obtain rfl : fn = Tryz.f10 := (Option.some.inj (Tryz.func10.symm.trans hfn)).symm
      exact ⟨by kernel_rfl, fun j t ht => by
        rw [Tryz.params10] at ht
        have hm : t ∈ [23, 51, 51] := by simpa using Array.mem_of_getElem? ht
        have hall : ([23, 51, 51].all fun u => !Tryz.prog.wantsStandIn u) = true := by kernel_rfl
        exact (show Tryz.prog.wantsStandIn t = false by simpa using List.all_eq_true.1 hall t hm)⟩)
    (by kernel_rfl)
#print axioms trainNearers_card
end Go.Proofs.YtgojpjbbahljeaaGreatDoor
