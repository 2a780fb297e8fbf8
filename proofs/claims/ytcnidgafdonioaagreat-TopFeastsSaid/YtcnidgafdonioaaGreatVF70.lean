/-
  TopFeasts: the given card: whatever the input, the call returns true, and the input reads as it did.
-/
import Derived.Test.YtcnidgafdonioaaGreatVE96
import Derived.Test.YtcnidgafdonioaaGreatVU13
import Derived.Test.YtcnidgafdonioaaGreatVU15
namespace Go.Proofs.YtcnidgafdonioaaGreat
open Go.ChangeShapes Go.WideShapes Go.ChangeAt Go.RowKit Go.Joins
open Go.Abs (VRels VRel ghOf noL Lives Live AV Own Pure)
set_option maxRecDepth 100000 in
theorem topFeasts_lifted (os : Os) (started : os.Started) (H : Type) (enc : TypeId × Value → H) :
    ReturnsInHanded {} Tryz.checked os 4 .any (Rows.topFeastsSpec.pre6 enc Tryz.prog Tryz.f4 [] false)
      (Rows.topFeastsSpec.post enc Tryz.prog Tryz.f4 false true false false) := by
  refine returnsInHanded_of_change_sized (C := Tryz.checked) ownKnobNone started (by kernel_rfl) Tryz.func4
    (let ⟨w, t, i, h1, h2, h3, h4, h5, h6⟩ := (ChangeSpec.witness_shaped (enc := enc) (C := Tryz.checked) (os := os) (X := fun _ _ => True) false (World.laidAll Tryz.prog os listed) #[.agg #[.int .i64 0, .slice none 0 0], .agg #[.int .i64 0, .int .i64 0, .int .i64 0], .slice none 0 0, .int .i64 0, .slice none 0 0, .agg #[.int .i64 0, .int .i64 0], .int .i64 0, .int .i64 0] 8 (World.laidAll_os _ _ _)
      (World.shaped_of_ZipB (by kernel_rfl) (by kernel_rfl)) (by kernel_rfl) (by kernel_rfl) (by kernel_rfl) trivial)
     ⟨w, t, i, h1, h2, h3, h4, ⟨h5.1.1, h5.2⟩, h6⟩) ?_
  intro W base args ds gs before hval0 hW _ _ _
  have hval : ∀ (j : Nat) t v, Tryz.f4.params[j]? = some t → args[j]? = some v → Value.okWide Tryz.prog W .any base t v := hval0
  have hW2 := hW
  obtain ⟨p, q, hA0, hV, rfl, _, _⟩ := hW
  have hA : DataW.TrodAll enc Tryz.prog W 0 (fun _ => true) true Tryz.f4.params.toList args.toList ds p := hA0
  rw [Tryz.params4] at hA hval
  obtain ⟨v0, v1, v2, v3, v4, v5, v6, v7, d0, d1, d2, d3, d4, d5, d6, d7, p0, p1, p2, p3, p4, p5, p6, p7, rfl, rfl, rfl, h0, h1, h2, h3, h4, h5, h6, h7⟩ := trodAll_eight hA
  obtain ⟨rfl, rfl⟩ := trodVars_none hV
  obtain ⟨a0, x0, k0, N0, l0, t0, R0⟩ := cal_arg (u0 := 3) Tryz.underlying61 (by kernel_rfl) (by kernel_rfl) (by kernel_rfl) Tryz.underlying3 Tryz.underlying23 (by kernel_rfl) Tryz.underlying3 (hval 0 61 v0 rfl rfl) h0
  obtain ⟨a1, b1, c1, rfl⟩ := trip_arg Tryz.underlying63 (by kernel_rfl) (trI_struct3 Tryz.underlying63 rfl rfl rfl (by kernel_rfl) (by kernel_rfl) (by kernel_rfl) (by kernel_rfl) (trI_int Tryz.underlying3 (by kernel_rfl)) (trI_int Tryz.underlying3 (by kernel_rfl)) (trI_int Tryz.underlying3 (by kernel_rfl))) (hval 1 63 v1 rfl rfl) h1
  obtain ⟨x2, k2, N2, l2, t2, R2⟩ := feasts_arg Tryz.underlying64 Tryz.underlying122 rfl rfl rfl rfl (by kernel_rfl) (by kernel_rfl) (by kernel_rfl) (by kernel_rfl) (by kernel_rfl) Tryz.underlying4 Tryz.underlying3 Tryz.underlying3 Tryz.underlying3 (hval 2 64 v2 rfl rfl) h2
  obtain ⟨a3, rfl, rfl, rfl, _⟩ := open_int Tryz.underlying3 (hval 3 3 v3 rfl rfl) h3
  obtain ⟨x4, k4, N4, l4, t4, R4⟩ := train_arg Tryz.underlying29 Tryz.underlying105 (by kernel_rfl) rfl rfl (by kernel_rfl) (by kernel_rfl) Tryz.underlying3 Tryz.underlying3 (hval 4 29 v4 rfl rfl) h4
  obtain ⟨c5, e5, y5, z5, m5, rfl, rfl, rfl, hy5, hz5⟩ := open_agg2 Tryz.underlying40 (by kernel_rfl) (by kernel_rfl) (hval 5 40 v5 rfl rfl) h5
  obtain ⟨a5, q5, rfl, _⟩ := DataW.trod_int Tryz.underlying3 hy5
  obtain ⟨b5, r5, rfl, _⟩ := DataW.trod_int Tryz.underlying3 hz5
  simp at q5 r5
  subst q5 r5
  obtain ⟨a6, rfl, rfl, rfl, _⟩ := open_int Tryz.underlying3 (hval 6 3 v6 rfl rfl) h6
  obtain ⟨a7, rfl, rfl, rfl, _⟩ := open_int Tryz.underlying3 (hval 7 3 v7 rfl rfl) h7
  refine (Pure.callsAt (Go.Abs.Seat.topFeasts Go.Abs.Seat.pknown a0 t0 a1 b1 c1 t2 a3 t4 a5 b5 a6 a7) (fun _ => N0 + N2 + N4) (⟨Nat.zero_le _, fun j hj => absurd hj (Nat.not_lt_zero _)⟩) (w := W) (vs := #[v0, .agg #[.int .i64 a1, .int .i64 b1, .int .i64 c1], v2, .int .i64 a3, v4, .agg #[.int .i64 a5, .int .i64 b5], .int .i64 a6, .int .i64 a7])
    (.one (R0 _ (by omega)) (.one (.agg' (.one rfl (.one rfl (.one rfl rfl)))) (.one (R2 _ (by omega)) (.one rfl (.one (R4 _ (by omega)) (.one (.agg' (.one rfl (.one rfl rfl))) (.one rfl (.one rfl rfl)))))))) ⟨⟨trivial, l0, trivial⟩, ⟨trivial, trivial, trivial, trivial⟩, l2, trivial, l4, ⟨trivial, trivial, trivial⟩, trivial, trivial, trivial⟩).mono fun e W2 ⟨he, hb⟩ => ?_
  subst he
  exact ⟨_, rfl, law_post laidOutProg (by kernel_rfl) rfl Tryz.underlying4 rfl rfl hW2 hb⟩

theorem topFeasts_holds : Rows.TopFeastsSaid :=
 OpenClaim.holds_of_wide 4 Tryz.f4 rfl rfl rfl rfl rfl rfl rfl ⟨rfl, rfl, rfl, rfl, rfl⟩ rfl rfl rfl rfl rfl (by kernel_rfl) Tryz.func4 (by kernel_rfl)
  (of_decide_eq_true (by kernel_rfl)) (by unfold Func.isWrapper; first | (rw [if_pos (by decide +kernel)]; kernel_rfl) | (rw [if_neg (by decide +kernel)]; exact ⟨rfl, rfl⟩))
  (fun os started H enc _ => topFeasts_lifted os started H enc)

#print axioms topFeasts_holds
end Go.Proofs.YtcnidgafdonioaaGreat
