/-
  TrainRivals: the given card: whatever the input, the call returns true, and the input reads as it did.
-/
import Derived.Test.YtpjclnoehlflcaaGreatDoorU6
import Derived.Test.YtpjclnoehlflcaaGreatDoorU15
import Derived.Test.YtpjclnoehlflcaaGreatDoorL18
/-! TrainRivals: the given card: whatever the input, the call returns true, and the input reads as it did. -/
namespace Go.Proofs.YtpjclnoehlflcaaGreatDoor
open Go.ChangeShapes Go.WideShapes Go.ChangeAt Go.RowKit Go.Joins
open Go.Abs (VRels VRel ghOf noL Lives Live AV Own Pure)

set_option maxRecDepth 100000 in
theorem trainRivals_lifted (os : Os) (started : os.Started) (H : Type) (enc : TypeId × Value → H) :
  ReturnsInHanded {} Tryz.checked os 8 .any (fun w args => (Rows.trainRivalsSpec.pre enc Tryz.prog Tryz.f8 [] false w args ∧ laidMetH Tryz.prog listed w) ∧ sizedMet enc Tryz.prog Tryz.f8 (OpenSpec.ofChange Rows.trainRivalsSpec) false w args)
   (Rows.trainRivalsSpec.post enc Tryz.prog Tryz.f8 false true false false) := by
 refine returnsInHanded_of_change_and (C := Tryz.checked) (X := fun w _ => laidMetH Tryz.prog listed w) (fun _ _ _ hh h => h.of_heap hh) ownKnobNone started (by kernel_rfl) Tryz.func8
  (ChangeSpec.witness_shaped (enc := enc) (C := Tryz.checked) (os := os) (X := fun w _ => laidMetH Tryz.prog listed w) false (World.laidAll Tryz.prog os listed) #[.agg #[.int .i64 0, .int .i64 0, .int .i64 0, .int .i64 0, .slice none 0 0], .agg #[.int .i64 0, .int .i64 0], .slice none 0 0] 8 (World.laidAll_os _ _ _)
   (World.shaped_of_ZipB (by kernel_rfl) (by kernel_rfl)) (by kernel_rfl) (by kernel_rfl) (by kernel_rfl) (listed_met os _)) ?_
 intro W base args ds gs before hval0 hW _ _ _ _
 have hval : ∀ (j : Nat) t v, Tryz.f8.params[j]? = some t → args[j]? = some v → Value.okWide Tryz.prog W .any base t v := hval0
 have hW2 := hW
 obtain ⟨p, q, hA0, hV, rfl, _, _⟩ := hW
 have hA : DataW.TrodAll enc Tryz.prog W 0 (fun _ => true) true Tryz.f8.params.toList args.toList ds p := hA0
 rw [Tryz.params8] at hA hval
 obtain ⟨v0, v1, v2, d0, d1, d2, p0, p1, p2, rfl, rfl, rfl, h0, h1, h2⟩ := trodAll_three hA
 obtain ⟨rfl, rfl⟩ := trodVars_none hV
 obtain ⟨ra0, rb0, rc0, rs0, x0, k0, N0, l0, t0, u0, R0⟩ := rule_arg (u0 := 3) (u1 := 3) (u2 := 3) (u3 := 46) Tryz.underlying48 (by kernel_rfl) (by kernel_rfl) (by kernel_rfl) Tryz.underlying3 Tryz.underlying3 Tryz.underlying3 Tryz.underlying46 Tryz.underlying25 (by kernel_rfl) Tryz.underlying3 (hval 0 48 v0 rfl rfl) h0
 obtain ⟨c1, e1, y1, z1, m1, rfl, rfl, rfl, hy1, hz1⟩ := open_agg2 Tryz.underlying24 (by kernel_rfl) (by kernel_rfl) (hval 1 24 v1 rfl rfl) h1
 obtain ⟨a1, q1, rfl, _⟩ := DataW.trod_int Tryz.underlying3 hy1
 obtain ⟨b1, r1, rfl, _⟩ := DataW.trod_int Tryz.underlying3 hz1
 simp at q1 r1
 subst q1 r1
 obtain ⟨x2, k2, N2, l2, t2, R2⟩ := pairq_arg Tryz.underlying22 Tryz.underlying97 (by kernel_rfl) rfl rfl (by kernel_rfl) (by kernel_rfl) Tryz.underlying3 Tryz.underlying3 (hval 2 22 v2 rfl rfl) h2
 refine (Pure.callsAt (Go.Abs.Seat.trainRivals Go.Abs.Seat.pknown ra0 rb0 rc0 rs0 u0 t0 a1 b1 t2) (fun _ => N0 + N2) (w := W) (vs := #[v0, .agg #[.int .i64 a1, .int .i64 b1], v2])
  (.one (R0 _ (by omega)) (.one (.agg' (.one rfl (.one rfl rfl))) (.one (R2 _ (by omega)) rfl))) ⟨⟨trivial, trivial, trivial, trivial, l0, trivial⟩, ⟨trivial, trivial, trivial⟩, l2, trivial⟩).mono fun e W2 ⟨he, hb⟩ => ?_
 subst he
 exact ⟨_, rfl, law_post laidOutProg (by kernel_rfl) rfl Tryz.underlying4 rfl rfl hW2 hb⟩

theorem trainRivals_holds : Rows.TrainRivalsSaid :=
 OpenClaim.holds_of_wide 8 Tryz.f8 rfl rfl rfl rfl rfl rfl rfl ⟨rfl, rfl, rfl, rfl, rfl⟩ rfl rfl rfl rfl rfl (by kernel_rfl) Tryz.func8 (by kernel_rfl)
  (of_decide_eq_true (by kernel_rfl)) (by unfold Func.isWrapper; first | (rw [if_pos (by decide +kernel)]; kernel_rfl) | (rw [if_neg (by decide +kernel)]; exact ⟨rfl, rfl⟩))
  (fun os started H enc _ => trainRivals_lifted os started H enc)

theorem trainRivals_card : Rows.TrainRivalsCardSaid :=
 Claim7.holds_tied_plain_at .later [] [.data, .data, .data, .data, .pinned] true (true, "4885aa33add3758c8a61098273be5fe62f50bb4f2ca1bedf929b21f44d4ac036") true trainRivals_holds (fun _ h => by cases h) (by kernel_rfl) (fun _ h => by cases h) trainRivals_row_tie rfl ⟨rfl, rfl⟩ (by kernel_rfl) rfl
  (fun f fn hf hfn => by
   obtain rfl : f = 8 := Option.some.inj ((show Tryz.prog.funcNamed "tellurion/tellurionlaw01.TrainRivals" = some 8 by kernel_rfl).symm.trans hf) |>.symm
   obtain rfl : fn = Tryz.f8 := (Option.some.inj (Tryz.func8.symm.trans hfn)).symm
   exact ⟨by kernel_rfl, fun j t ht => by
    rw [Tryz.params8] at ht
    have hm : t ∈ [48, 24, 22] := by simpa using Array.mem_of_getElem? ht
    have hall : ([48, 24, 22].all fun u => !Tryz.prog.wantsStandIn u) = true := by kernel_rfl
    exact (show Tryz.prog.wantsStandIn t = false by simpa using List.all_eq_true.1 hall t hm)⟩)
  (by kernel_rfl)
#print axioms trainRivals_card
end Go.Proofs.YtpjclnoehlflcaaGreatDoor
