/-
  ShopSuits: the given card: whatever the input, the call returns true, and the input reads as it did.
-/
import Derived.Test.YtikikanopganaaaGreatDoorL36
import Derived.Test.YtikikanopganaaaGreatDoorU19
import Derived.Test.YtikikanopganaaaGreatDoorU20
/-! ShopSuits: the given card: whatever the input, the call returns true, and the input reads as it did. -/
namespace Go.Proofs.YtikikanopganaaaGreatDoor
open Go.ChangeShapes Go.WideShapes Go.ChangeAt Go.RowKit Go.Joins
open Go.Abs (VRels VRel ghOf noL Lives Live AV Own Pure)

set_option maxRecDepth 100000 in
theorem shopSuits_lifted (os : Os) (started : os.Started) (H : Type) (enc : TypeId × Value → H) :
  ReturnsInHanded {} Tryz.checked os 10 .any (fun w args => (Rows.shopSuitsSpec.pre enc Tryz.prog Tryz.f10 [] false w args ∧ laidMetH Tryz.prog listed w) ∧ sizedMet enc Tryz.prog Tryz.f10 (OpenSpec.ofChange Rows.shopSuitsSpec) false w args)
   (Rows.shopSuitsSpec.post enc Tryz.prog Tryz.f10 false true false false) := by
 refine returnsInHanded_of_change_and (C := Tryz.checked) (X := fun w _ => laidMetH Tryz.prog listed w) (fun _ _ _ hh h => h.of_heap hh) ownKnobNone started (by kernel_rfl) Tryz.func10
  (ChangeSpec.witness_shaped (enc := enc) (C := Tryz.checked) (os := os) (X := fun w _ => laidMetH Tryz.prog listed w) false (World.laidAll Tryz.prog os listed) #[.agg #[.slice none 0 0, .slice none 0 0], .int .i64 0, .int .i64 0, .int .i64 0, .agg #[.int .i64 0, .int .i64 0], .slice none 0 0] 8 (World.laidAll_os _ _ _)
   (World.shaped_of_ZipB (by kernel_rfl) (by kernel_rfl)) (by kernel_rfl) (by kernel_rfl) (by kernel_rfl) (listed_met os _)) ?_
 intro W base args ds gs before hval0 hW _ _ _ _
 have hval : ∀ (j : Nat) t v, Tryz.f10.params[j]? = some t → args[j]? = some v → Value.okWide Tryz.prog W .any base t v := hval0
 have hW2 := hW
 obtain ⟨p, q, hA0, hV, rfl, _, _⟩ := hW
 have hA : DataW.TrodAll enc Tryz.prog W 0 (fun _ => true) true Tryz.f10.params.toList args.toList ds p := hA0
 rw [Tryz.params10] at hA hval
 obtain ⟨v0, v1, v2, v3, v4, v5, d0, d1, d2, d3, d4, d5, p0, p1, p2, p3, p4, p5, rfl, rfl, rfl, h0, h1, h2, h3, h4, h5⟩ := trodAll_six hA
 obtain ⟨rfl, rfl⟩ := trodVars_none hV
 obtain ⟨x0, y0, k0, j0, N0, l0, m0, t0, s0, R0⟩ := piece_arg Tryz.underlying34 (by kernel_rfl) (by kernel_rfl) (by kernel_rfl) Tryz.underlying32 (by kernel_rfl) (trI_struct2 Tryz.underlying73 rfl (by kernel_rfl) (by kernel_rfl) (trI_int Tryz.underlying3 (by kernel_rfl)) (trI_struct2 Tryz.underlying64 rfl (by kernel_rfl) (by kernel_rfl) (trI_int Tryz.underlying3 (by kernel_rfl)) (trI_int Tryz.underlying3 (by kernel_rfl)))) Tryz.underlying22 (by kernel_rfl) Tryz.underlying3 (hval 0 34 v0 rfl rfl) h0
 obtain ⟨a1, rfl, rfl, rfl, _⟩ := open_int Tryz.underlying3 (hval 1 3 v1 rfl rfl) h1
 obtain ⟨a2, rfl, rfl, rfl, _⟩ := open_int Tryz.underlying3 (hval 2 3 v2 rfl rfl) h2
 obtain ⟨a3, rfl, rfl, rfl, _⟩ := open_int Tryz.underlying3 (hval 3 3 v3 rfl rfl) h3
 obtain ⟨c4, e4, y4, z4, m4, rfl, rfl, rfl, hy4, hz4⟩ := open_agg2 Tryz.underlying36 (by kernel_rfl) (by kernel_rfl) (hval 4 36 v4 rfl rfl) h4
 obtain ⟨a4, q4, rfl, _⟩ := DataW.trod_int Tryz.underlying3 hy4
 obtain ⟨b4, r4, rfl, _⟩ := DataW.trod_int Tryz.underlying3 hz4
 simp at q4 r4
 subst q4 r4
 obtain ⟨x5, k5, N5, l5, t5, R5⟩ := trips_arg Tryz.underlying84 (by kernel_rfl) (trI_struct2 Tryz.underlying66 rfl (by kernel_rfl) (by kernel_rfl) (trI_int Tryz.underlying3 (by kernel_rfl)) (trI_struct2 Tryz.underlying64 rfl (by kernel_rfl) (by kernel_rfl) (trI_int Tryz.underlying3 (by kernel_rfl)) (trI_int Tryz.underlying3 (by kernel_rfl)))) (hval 5 84 v5 rfl rfl) h5
 refine (Pure.callsAt (Go.Abs.Seat.shopSuits Go.Abs.Seat.pknown t0 s0 t5 a1 a2 a3 a4 b4) (fun _ => N0 + N5) (w := W) (vs := #[v0, .int .i64 a1, .int .i64 a2, .int .i64 a3, .agg #[.int .i64 a4, .int .i64 b4], v5])
  (.one (R0 _ (by omega)) (.one rfl (.one rfl (.one rfl (.one (.agg' (.one rfl (.one rfl rfl))) (.one (R5 _ (by omega)) rfl)))))) ⟨⟨l0, m0, trivial⟩, trivial, trivial, trivial, ⟨trivial, trivial, trivial⟩, l5, trivial⟩).mono fun e W2 ⟨he, hb⟩ => ?_
 subst he
 exact ⟨_, rfl, law_post laidOutProg (by kernel_rfl) rfl Tryz.underlying4 rfl rfl hW2 hb⟩

theorem shopSuits_holds : Rows.ShopSuitsSaid :=
 OpenClaim.holds_of_wide 10 Tryz.f10 rfl rfl rfl rfl rfl rfl rfl ⟨rfl, rfl, rfl, rfl, rfl⟩ rfl rfl rfl rfl rfl (by kernel_rfl) Tryz.func10 (by kernel_rfl)
  (of_decide_eq_true (by kernel_rfl)) (by unfold Func.isWrapper; first | (rw [if_pos (by decide +kernel)]; kernel_rfl) | (rw [if_neg (by decide +kernel)]; exact ⟨rfl, rfl⟩))
  (fun os started H enc _ => shopSuits_lifted os started H enc)

theorem shopSuits_card : Rows.ShopSuitsCardSaid :=
 Claim7.holds_tied_plain_at .later [] [.data, .data, .data, .data, .pinned] true (true, "c0b59ad1ed21faea454f67e1167a6a8e291c40d078e953466ad8692d44a4c4ce") true shopSuits_holds (fun _ h => by cases h) (by kernel_rfl) (fun _ h => by cases h) shopSuits_row_tie rfl ⟨rfl, rfl⟩ (by kernel_rfl) rfl
  (fun f fn hf hfn => by
   obtain rfl : f = 10 := Option.some.inj ((show Tryz.prog.funcNamed "tellurion/tellurionlaw09.ShopSuits" = some 10 by kernel_rfl).symm.trans hf) |>.symm
   obtain rfl : fn = Tryz.f10 := (Option.some.inj (Tryz.func10.symm.trans hfn)).symm
   exact ⟨by kernel_rfl, fun j t ht => by
    rw [Tryz.params10] at ht
    have hm : t ∈ [34, 3, 3, 3, 36, 84] := by simpa using Array.mem_of_getElem? ht
    have hall : ([34, 3, 3, 3, 36, 84].all fun u => !Tryz.prog.wantsStandIn u) = true := by kernel_rfl
    exact (show Tryz.prog.wantsStandIn t = false by simpa using List.all_eq_true.1 hall t hm)⟩)
  (by kernel_rfl)
#print axioms shopSuits_card
end Go.Proofs.YtikikanopganaaaGreatDoor
