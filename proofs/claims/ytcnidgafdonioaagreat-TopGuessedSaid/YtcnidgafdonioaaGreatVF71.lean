/-
  TopGuessed: the given card: whatever the input, the call returns true, and the input reads as it did.
-/
import Derived.Test.YtcnidgafdonioaaGreatVJ15
import Derived.Test.YtcnidgafdonioaaGreatVU16
import Derived.Test.YtcnidgafdonioaaGreatVU17
namespace Go.Proofs.YtcnidgafdonioaaGreat
open Go.ChangeShapes Go.WideShapes Go.ChangeAt Go.RowKit Go.Joins
open Go.Abs (VRels VRel ghOf noL Lives Live AV Own Pure)
set_option maxRecDepth 100000 in
theorem topGuessed_lifted (os : Os) (started : os.Started) (H : Type) (enc : TypeId × Value → H) :
    ReturnsInHanded {} Tryz.checked os 3 .any (Rows.topGuessedSpec.pre6 enc Tryz.prog Tryz.f3 [] false)
      (Rows.topGuessedSpec.post enc Tryz.prog Tryz.f3 false true false false) := by
  refine returnsInHanded_of_change_sized (C := Tryz.checked) ownKnobNone started (by kernel_rfl) Tryz.func3
    (let ⟨w, t, i, h1, h2, h3, h4, h5, h6⟩ := (ChangeSpec.witness_shaped (enc := enc) (C := Tryz.checked) (os := os) (X := fun _ _ => True) false (World.laidAll Tryz.prog os listed) #[.agg #[.slice none 0 0, .slice none 0 0], .int .i64 0, .int .i64 0, .int .i64 0] 8 (World.laidAll_os _ _ _)
      (World.shaped_of_ZipB (by kernel_rfl) (by kernel_rfl)) (by kernel_rfl) (by kernel_rfl) (by kernel_rfl) trivial)
     ⟨w, t, i, h1, h2, h3, h4, ⟨h5.1.1, h5.2⟩, h6⟩) ?_
  intro W base args ds gs before hval0 hW _ _ _
  have hval : ∀ (j : Nat) t v, Tryz.f3.params[j]? = some t → args[j]? = some v → Value.okWide Tryz.prog W .any base t v := hval0
  have hW2 := hW
  obtain ⟨p, q, hA0, hV, rfl, _, _⟩ := hW
  have hA : DataW.TrodAll enc Tryz.prog W 0 (fun _ => true) true Tryz.f3.params.toList args.toList ds p := hA0
  rw [Tryz.params3] at hA hval
  obtain ⟨v0, v1, v2, v3, d0, d1, d2, d3, p0, p1, p2, p3, rfl, rfl, rfl, h0, h1, h2, h3⟩ := trodAll_four hA
  obtain ⟨rfl, rfl⟩ := trodVars_none hV
  obtain ⟨x0, y0, k0, j0, N0, l0, m0, t0, s0, R0⟩ := piece_arg Tryz.underlying25 (by kernel_rfl) (by kernel_rfl) (by kernel_rfl) Tryz.underlying22 (by kernel_rfl) (trI_struct2 Tryz.underlying146 rfl (by kernel_rfl) (by kernel_rfl) (trI_int Tryz.underlying3 (by kernel_rfl)) (trI_struct2 Tryz.underlying105 rfl (by kernel_rfl) (by kernel_rfl) (trI_int Tryz.underlying3 (by kernel_rfl)) (trI_int Tryz.underlying3 (by kernel_rfl)))) Tryz.underlying23 (by kernel_rfl) Tryz.underlying3 (hval 0 25 v0 rfl rfl) h0
  obtain ⟨a1, rfl, rfl, rfl, _⟩ := open_int Tryz.underlying3 (hval 1 3 v1 rfl rfl) h1
  obtain ⟨a2, rfl, rfl, rfl, _⟩ := open_int Tryz.underlying3 (hval 2 3 v2 rfl rfl) h2
  obtain ⟨a3, rfl, rfl, rfl, _⟩ := open_int Tryz.underlying3 (hval 3 3 v3 rfl rfl) h3
  refine (Pure.callsAt (Go.Abs.Seat.topGuessed Go.Abs.Seat.pknown t0 s0 a1 a2 a3) (fun _ => N0) (⟨Nat.zero_le _, fun j hj => absurd hj (Nat.not_lt_zero _)⟩) (w := W) (vs := #[v0, .int .i64 a1, .int .i64 a2, .int .i64 a3])
    (.one (R0 _ (by omega)) (.one rfl (.one rfl (.one rfl rfl)))) ⟨⟨l0, m0, trivial⟩, trivial, trivial, trivial, trivial⟩).mono fun e W2 ⟨he, hb⟩ => ?_
  subst he
  exact ⟨_, rfl, law_post laidOutProg (by kernel_rfl) rfl Tryz.underlying4 rfl rfl hW2 hb⟩

theorem topGuessed_holds : Rows.TopGuessedSaid :=
 OpenClaim.holds_of_wide 3 Tryz.f3 rfl rfl rfl rfl rfl rfl rfl ⟨rfl, rfl, rfl, rfl, rfl⟩ rfl rfl rfl rfl rfl (by kernel_rfl) Tryz.func3 (by kernel_rfl)
  (of_decide_eq_true (by kernel_rfl)) (by unfold Func.isWrapper; first | (rw [if_pos (by decide +kernel)]; kernel_rfl) | (rw [if_neg (by decide +kernel)]; exact ⟨rfl, rfl⟩))
  (fun os started H enc _ => topGuessed_lifted os started H enc)

#print axioms topGuessed_holds
end Go.Proofs.YtcnidgafdonioaaGreat
