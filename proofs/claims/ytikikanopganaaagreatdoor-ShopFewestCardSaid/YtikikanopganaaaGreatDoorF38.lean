/-
  ShopFewest: the given card: whatever the input, the call returns true, and the input reads as it did.
-/
import Derived.Test.YtikikanopganaaaGreatDoorL38
import Derived.Test.YtikikanopganaaaGreatDoorU15
import Derived.Test.YtikikanopganaaaGreatDoorU16
/-! ShopFewest: the given card: whatever the input, the call returns true, and the input reads as it did. -/
namespace Go.Proofs.YtikikanopganaaaGreatDoor
open Go.ChangeShapes Go.WideShapes Go.ChangeAt Go.RowKit Go.Joins
open Go.Abs (VRels VRel ghOf noL Lives Live AV Own Pure)

set_option maxRecDepth 100000 in
theorem shopFewest_lifted (os : Os) (started : os.Started) (H : Type) (enc : TypeId × Value → H) :
  ReturnsInHanded {} Tryz.checked os 13 .any (fun w args => (Rows.shopFewestSpec.pre enc Tryz.prog Tryz.f13 [] false w args ∧ laidMetH Tryz.prog listed w) ∧ sizedMet enc Tryz.prog Tryz.f13 (OpenSpec.ofChange Rows.shopFewestSpec) false w args)
   (Rows.shopFewestSpec.post enc Tryz.prog Tryz.f13 false true false false) := by
 refine returnsInHanded_of_change_and (C := Tryz.checked) (X := fun w _ => laidMetH Tryz.prog listed w) (fun _ _ _ hh h => h.of_heap hh) ownKnobNone started (by kernel_rfl) Tryz.func13
  (ChangeSpec.witness_shaped (enc := enc) (C := Tryz.checked) (os := os) (X := fun w _ => laidMetH Tryz.prog listed w) false (World.laidAll Tryz.prog os listed) #[.int .i64 0, .int .i64 0, .slice none 0 0, .slice none 0 0] 8 (World.laidAll_os _ _ _)
   (World.shaped_of_ZipB (by kernel_rfl) (by kernel_rfl)) (by kernel_rfl) (by kernel_rfl) (by kernel_rfl) (listed_met os _)) ?_
 intro W base args ds gs before hval0 hW _ _ _ _
 have hval : ∀ (j : Nat) t v, Tryz.f13.params[j]? = some t → args[j]? = some v → Value.okWide Tryz.prog W .any base t v := hval0
 have hW2 := hW
 obtain ⟨p, q, hA0, hV, rfl, _, _⟩ := hW
 have hA : DataW.TrodAll enc Tryz.prog W 0 (fun _ => true) true Tryz.f13.params.toList args.toList ds p := hA0
 rw [Tryz.params13] at hA hval
 obtain ⟨v0, v1, v2, v3, d0, d1, d2, d3, p0, p1, p2, p3, rfl, rfl, rfl, h0, h1, h2, h3⟩ := trodAll_four hA
 obtain ⟨rfl, rfl⟩ := trodVars_none hV
 obtain ⟨a0, rfl, rfl, rfl, _⟩ := open_int Tryz.underlying3 (hval 0 3 v0 rfl rfl) h0
 obtain ⟨a1, rfl, rfl, rfl, _⟩ := open_int Tryz.underlying3 (hval 1 3 v1 rfl rfl) h1
 obtain ⟨x2, k2, N2, l2, t2, R2⟩ := ints_arg Tryz.underlying22 (by kernel_rfl) Tryz.underlying3 (hval 2 22 v2 rfl rfl) h2
 obtain ⟨x3, k3, N3, l3, t3, R3⟩ := ints_arg Tryz.underlying22 (by kernel_rfl) Tryz.underlying3 (hval 3 22 v3 rfl rfl) h3
 refine (Pure.callsAt (Go.Abs.Seat.shopFewest Go.Abs.Seat.pknown a0 a1 t2 t3) (fun _ => N2 + N3) (w := W) (vs := #[.int .i64 a0, .int .i64 a1, v2, v3])
  (.one rfl (.one rfl (.one (R2 _ (by omega)) (.one (R3 _ (by omega)) rfl)))) ⟨trivial, trivial, l2, l3, trivial⟩).mono fun e W2 ⟨he, hb⟩ => ?_
 subst he
 exact ⟨_, rfl, law_post laidOutProg (by kernel_rfl) rfl Tryz.underlying4 rfl rfl hW2 hb⟩

theorem shopFewest_holds : Rows.ShopFewestSaid :=
 OpenClaim.holds_of_wide 13 Tryz.f13 rfl rfl rfl rfl rfl rfl rfl ⟨rfl, rfl, rfl, rfl, rfl⟩ rfl rfl rfl rfl rfl (by kernel_rfl) Tryz.func13 (by kernel_rfl)
  (of_decide_eq_true (by kernel_rfl)) (by unfold Func.isWrapper; first | (rw [if_pos (by decide +kernel)]; kernel_rfl) | (rw [if_neg (by decide +kernel)]; exact ⟨rfl, rfl⟩))
  (fun os started H enc _ => shopFewest_lifted os started H enc)

theorem shopFewest_card : Rows.ShopFewestCardSaid :=
 Claim7.holds_tied_plain_at .later [] [.data, .data, .data, .data, .pinned] true (true, "c0b59ad1ed21faea454f67e1167a6a8e291c40d078e953466ad8692d44a4c4ce") true shopFewest_holds (fun _ h => by cases h) (by kernel_rfl) (fun _ h => by cases h) shopFewest_row_tie rfl ⟨rfl, rfl⟩ (by kernel_rfl) rfl
  (fun f fn hf hfn => by
   obtain rfl : f = 13 := Option.some.inj ((show Tryz.prog.funcNamed "tellurion/tellurionlaw09.ShopFewest" = some 13 by kernel_rfl).symm.trans hf) |>.symm
   obtain rfl : fn = Tryz.f13 := (Option.some.inj (Tryz.func13.symm.trans hfn)).symm
   exact ⟨by kernel_rfl, fun j t ht => by
    rw [Tryz.params13] at ht
    have hm : t ∈ [3, 3, 22, 22] := by simpa using Array.mem_of_getElem? ht
    have hall : ([3, 3, 22, 22].all fun u => !Tryz.prog.wantsStandIn u) = true := by kernel_rfl
    exact (show Tryz.prog.wantsStandIn t = false by simpa using List.all_eq_true.1 hall t hm)⟩)
  (by kernel_rfl)
#print axioms shopFewest_card
end Go.Proofs.YtikikanopganaaaGreatDoor
