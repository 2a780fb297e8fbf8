/-
  ShopReads: the given card: whatever the input, the call returns true, and the input reads as it did.
-/
import Derived.Test.YtlmadgdonalncaaGreatDoorL48
import Derived.Test.YtlmadgdonalncaaGreatDoorU18
import Derived.Test.YtlmadgdonalncaaGreatDoorU19
import Derived.ChangeMaps5
namespace Go.Proofs.YtlmadgdonalncaaGreatDoor
open Go.ChangeShapes Go.WideShapes Go.ChangeAt Go.RowKit Go.Joins
open Go.Abs (VRels VRel ghOf noL Lives Live AV Own Pure)
theorem str_rel (g : Go.Abs.Gh) (w : World) (s : ByteArray) : Go.Abs.VRel g w (.str s.data.toList) (.string s) := by
 cases s
 simp [Go.Abs.VRel]
set_option maxRecDepth 100000 in
theorem shopReads_lifted (os : Os) (started : os.Started) (H : Type) (enc : TypeId × Value → H) :
  ReturnsInHanded {} Tryz.checked os 11 .any (fun w args => (Rows.shopReadsSpec.pre enc Tryz.prog Tryz.f11 [] false w args ∧ laidMetH Tryz.prog listed w) ∧ sizedMet enc Tryz.prog Tryz.f11 (OpenSpec.ofChange Rows.shopReadsSpec) false w args)
   (Rows.shopReadsSpec.post enc Tryz.prog Tryz.f11 false true false false) := by
 refine returnsInHanded_of_change_and (C := Tryz.checked) (X := fun w _ => laidMetH Tryz.prog listed w) (fun _ _ _ hh h => h.of_heap hh) ownKnobNone started (by kernel_rfl) Tryz.func11
  (ChangeSpec.witness_shaped (enc := enc) (C := Tryz.checked) (os := os) (X := fun w _ => laidMetH Tryz.prog listed w) false (World.laidAll Tryz.prog os listed) #[.string ⟨#[]⟩] 8 (World.laidAll_os _ _ _)
   (World.shaped_of_ZipB (by kernel_rfl) (by kernel_rfl)) (by kernel_rfl) (by kernel_rfl) (by kernel_rfl) (listed_met os _)) ?_
 intro W base args ds gs before hval0 hW _ _ _ _
 have hval : ∀ (j : Nat) t v, Tryz.f11.params[j]? = some t → args[j]? = some v → Value.okWide Tryz.prog W .any base t v := hval0
 have hW2 := hW
 obtain ⟨p, q, hA0, hV, rfl, _, _⟩ := hW
 have hA : DataW.TrodAll enc Tryz.prog W 0 (fun _ => true) true Tryz.f11.params.toList args.toList ds p := hA0
 rw [Tryz.params11] at hA hval
 obtain ⟨v0, d0, rfl, rfl, h0⟩ := trodAll_one hA
 obtain ⟨rfl, rfl⟩ := trodVars_none hV
 obtain ⟨s0, rfl, rfl, rfl, _⟩ := Go.ChangeMaps.open_string Tryz.underlying9 (hval 0 9 v0 rfl rfl) h0
 refine (Pure.callsAt (Go.Abs.Seat.reads_law Go.Abs.Seat.pknown s0.data.toList) (fun _ => 0) (w := W) (vs := #[.string s0])
  (.one (str_rel _ _ s0) rfl) ⟨trivial, trivial⟩).mono fun e W2 ⟨he, hb⟩ => ?_
 subst he
 exact ⟨_, rfl, law_post laidOutProg (by kernel_rfl) rfl Tryz.underlying4 rfl rfl hW2 hb⟩

theorem shopReads_holds : Rows.ShopReadsSaid :=
 OpenClaim.holds_of_wide 11 Tryz.f11 rfl rfl rfl rfl rfl rfl rfl ⟨rfl, rfl, rfl, rfl, rfl⟩ rfl rfl rfl rfl rfl (by kernel_rfl) Tryz.func11 (by kernel_rfl)
  (of_decide_eq_true (by kernel_rfl)) (by unfold Func.isWrapper; first | (rw [if_pos (by decide +kernel)]; kernel_rfl) | (rw [if_neg (by decide +kernel)]; exact ⟨rfl, rfl⟩))
  (fun os started H enc _ => shopReads_lifted os started H enc)

theorem shopReads_card : Rows.ShopReadsCardSaid :=
 Claim7.holds_tied_plain_at .later [] [.data, .data, .data, .data, .pinned] true (true, "60b469ea42033640b1891e3a380a631c71d43b076c90fd14a96666f986b8abc6") true shopReads_holds (fun _ h => by cases h) (by kernel_rfl) (fun _ h => by cases h) shopReads_row_tie rfl ⟨rfl, rfl⟩ (by kernel_rfl) rfl
  (fun f fn hf hfn => by
   obtain rfl : f = 11 := Option.some.inj ((show Tryz.prog.funcNamed "tellurion/tellurionlaw09.ShopReads" = some 11 by kernel_rfl).symm.trans hf) |>.symm
   obtain rfl : fn = Tryz.f11 := (Option.some.inj (Tryz.func11.symm.trans hfn)).symm
   exact ⟨by kernel_rfl, fun j t ht => by
    rw [Tryz.params11] at ht
    have hm : t ∈ [9] := by simpa using Array.mem_of_getElem? ht
    have hall : ([9].all fun u => !Tryz.prog.wantsStandIn u) = true := by kernel_rfl
    exact (show Tryz.prog.wantsStandIn t = false by simpa using List.all_eq_true.1 hall t hm)⟩)
  (by kernel_rfl)
#print axioms shopReads_card
end Go.Proofs.YtlmadgdonalncaaGreatDoor
