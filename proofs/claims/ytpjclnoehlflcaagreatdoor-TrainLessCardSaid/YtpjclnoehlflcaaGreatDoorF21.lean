/-
  TrainLess: the given card: whatever the input, the call returns true, and the input reads as it did.
-/
import Derived.Test.YtpjclnoehlflcaaGreatDoorL24
import Derived.Test.YtpjclnoehlflcaaGreatDoorU18
import Derived.Test.YtpjclnoehlflcaaGreatDoorU19
/-! TrainLess: the given card: whatever the input, the call returns true, and the input reads as it did. -/
namespace Go.Proofs.YtpjclnoehlflcaaGreatDoor
open Go.ChangeShapes Go.WideShapes Go.ChangeAt Go.RowKit Go.Joins
open Go.Abs (VRels VRel ghOf noL Lives Live AV Own Pure)

set_option maxRecDepth 100000 in
theorem trainLess_lifted (os : Os) (started : os.Started) (H : Type) (enc : TypeId × Value → H) :
  ReturnsInHanded {} Tryz.checked os 13 .any (fun w args => (Rows.trainLessSpec.pre enc Tryz.prog Tryz.f13 [] false w args ∧ laidMetH Tryz.prog listed w) ∧ sizedMet enc Tryz.prog Tryz.f13 (OpenSpec.ofChange Rows.trainLessSpec) false w args)
   (Rows.trainLessSpec.post enc Tryz.prog Tryz.f13 false true false false) := by
 refine returnsInHanded_of_change_and (C := Tryz.checked) (X := fun w _ => laidMetH Tryz.prog listed w) (fun _ _ _ hh h => h.of_heap hh) ownKnobNone started (by kernel_rfl) Tryz.func13
  (ChangeSpec.witness_shaped (enc := enc) (C := Tryz.checked) (os := os) (X := fun w _ => laidMetH Tryz.prog listed w) false (World.laidAll Tryz.prog os listed) #[.slice none 0 0, .agg #[.int .i64 0, .int .i64 0], .int .i64 0, .slice none 0 0, .int .i64 0, .int .i64 0, .int .i64 0, .agg #[.int .i64 0, .int .i64 0, .int .i64 0, .int .i64 0, .slice none 0 0], .slice none 0 0, .int .i64 0, .int .i64 0] 8 (World.laidAll_os _ _ _)
   (World.shaped_of_ZipB (by kernel_rfl) (by kernel_rfl)) (by kernel_rfl) (by kernel_rfl) (by kernel_rfl) (listed_met os _)) ?_
 intro W base args ds gs before hval0 hW _ _ _ _
 have hval : ∀ (j : Nat) t v, Tryz.f13.params[j]? = some t → args[j]? = some v → Value.okWide Tryz.prog W .any base t v := hval0
 have hW2 := hW
 obtain ⟨p, q, hA0, hV, rfl, _, _⟩ := hW
 have hA : DataW.TrodAll enc Tryz.prog W 0 (fun _ => true) true Tryz.f13.params.toList args.toList ds p := hA0
 rw [Tryz.params13] at hA hval
 obtain ⟨v0, v1, v2, v3, v4, v5, v6, v7, v8, v9, v10, d0, d1, d2, d3, d4, d5, d6, d7, d8, d9, d10, p0, p1, p2, p3, p4, p5, p6, p7, p8, p9, p10, rfl, rfl, rfl, h0, h1, h2, h3, h4, h5, h6, h7, h8, h9, h10⟩ := trodAll_eleven hA
 obtain ⟨rfl, rfl⟩ := trodVars_none hV
 obtain ⟨x0, k0, N0, l0, t0, R0⟩ := train_arg Tryz.underlying22 Tryz.underlying97 (by kernel_rfl) rfl rfl (by kernel_rfl) (by kernel_rfl) Tryz.underlying3 Tryz.underlying3 (hval 0 22 v0 rfl rfl) h0
 obtain ⟨c1, e1, y1, z1, m1, rfl, rfl, rfl, hy1, hz1⟩ := open_agg2 Tryz.underlying24 (by kernel_rfl) (by kernel_rfl) (hval 1 24 v1 rfl rfl) h1
 obtain ⟨a1, q1, rfl, _⟩ := DataW.trod_int Tryz.underlying3 hy1
 obtain ⟨b1, r1, rfl, _⟩ := DataW.trod_int Tryz.underlying3 hz1
 simp at q1 r1
 subst q1 r1
 obtain ⟨a2, rfl, rfl, rfl, _⟩ := open_int Tryz.underlying3 (hval 2 3 v2 rfl rfl) h2
 obtain ⟨x3, k3, N3, l3, t3, R3⟩ := ints_arg Tryz.underlying25 (by kernel_rfl) Tryz.underlying3 (hval 3 25 v3 rfl rfl) h3
 obtain ⟨a4, rfl, rfl, rfl, _⟩ := open_int Tryz.underlying3 (hval 4 3 v4 rfl rfl) h4
 obtain ⟨a5, rfl, rfl, rfl, _⟩ := open_int Tryz.underlying3 (hval 5 3 v5 rfl rfl) h5
 obtain ⟨a6, rfl, rfl, rfl, _⟩ := open_int Tryz.underlying3 (hval 6 3 v6 rfl rfl) h6
 obtain ⟨ra7, rb7, rc7, rs7, x7, k7, N7, l7, t7, u7, R7⟩ := rule_arg (u0 := 3) (u1 := 3) (u2 := 3) (u3 := 46) Tryz.underlying48 (by kernel_rfl) (by kernel_rfl) (by kernel_rfl) Tryz.underlying3 Tryz.underlying3 Tryz.underlying3 Tryz.underlying46 Tryz.underlying25 (by kernel_rfl) Tryz.underlying3 (hval 7 48 v7 rfl rfl) h7
 obtain ⟨x8, k8, N8, l8, t8, R8⟩ := pairq_arg Tryz.underlying66 Tryz.underlying24 (by kernel_rfl) rfl rfl (by kernel_rfl) (by kernel_rfl) Tryz.underlying3 Tryz.underlying3 (hval 8 66 v8 rfl rfl) h8
 obtain ⟨a9, rfl, rfl, rfl, _⟩ := open_int Tryz.underlying3 (hval 9 3 v9 rfl rfl) h9
 obtain ⟨a10, rfl, rfl, rfl, _⟩ := open_int Tryz.underlying3 (hval 10 3 v10 rfl rfl) h10
 refine (Pure.callsAt (Go.Abs.Seat.trainLess Go.Abs.Seat.pknown t0 a1 b1 a2 t3 a4 a5 a6 ra7 rb7 rc7 rs7 u7 t7 t8 a9 a10) (fun _ => N0 + N3 + N7 + N8) (w := W) (vs := #[v0, .agg #[.int .i64 a1, .int .i64 b1], .int .i64 a2, v3, .int .i64 a4, .int .i64 a5, .int .i64 a6, v7, v8, .int .i64 a9, .int .i64 a10])
  (.one (R0 _ (by omega)) (.one (.agg' (.one rfl (.one rfl rfl))) (.one rfl (.one (R3 _ (by omega)) (.one rfl (.one rfl (.one rfl (.one (R7 _ (by omega)) (.one (R8 _ (by omega)) (.one rfl (.one rfl rfl))))))))))) ⟨l0, ⟨trivial, trivial, trivial⟩, trivial, l3, trivial, trivial, trivial, ⟨trivial, trivial, trivial, trivial, l7, trivial⟩, l8, trivial, trivial, trivial⟩).mono fun e W2 ⟨he, hb⟩ => ?_
 subst he
 exact ⟨_, rfl, law_post laidOutProg (by kernel_rfl) rfl Tryz.underlying4 rfl rfl hW2 hb⟩

theorem trainLess_holds : Rows.TrainLessSaid :=
 OpenClaim.holds_of_wide 13 Tryz.f13 rfl rfl rfl rfl rfl rfl rfl ⟨rfl, rfl, rfl, rfl, rfl⟩ rfl rfl rfl rfl rfl (by kernel_rfl) Tryz.func13 (by kernel_rfl)
  (of_decide_eq_true (by kernel_rfl)) (by unfold Func.isWrapper; first | (rw [if_pos (by decide +kernel)]; kernel_rfl) | (rw [if_neg (by decide +kernel)]; exact ⟨rfl, rfl⟩))
  (fun os started H enc _ => trainLess_lifted os started H enc)

theorem trainLess_card : Rows.TrainLessCardSaid :=
 Claim7.holds_tied_plain_at .later [] [.data, .data, .data, .data, .pinned] true (true, "4885aa33add3758c8a61098273be5fe62f50bb4f2ca1bedf929b21f44d4ac036") true trainLess_holds (fun _ h => by cases h) (by kernel_rfl) (fun _ h => by cases h) trainLess_row_tie rfl ⟨rfl, rfl⟩ (by kernel_rfl) rfl
  (fun f fn hf hfn => by
   obtain rfl : f = 13 := Option.some.inj ((show Tryz.prog.funcNamed "tellurion/tellurionlaw01.TrainLess" = some 13 by kernel_rfl).symm.trans hf) |>.symm
   obtain rfl : fn = Tryz.f13 := (Option.some.inj (Tryz.func13.symm.trans hfn)).symm
   exact ⟨by kernel_rfl, fun j t ht => by
    rw [Tryz.params13] at ht
    have hm : t ∈ [22, 24, 3, 25, 3, 3, 3, 48, 66, 3, 3] := by simpa using Array.mem_of_getElem? ht
    have hall : ([22, 24, 3, 25, 3, 3, 3, 48, 66, 3, 3].all fun u => !Tryz.prog.wantsStandIn u) = true := by kernel_rfl
    exact (show Tryz.prog.wantsStandIn t = false by simpa using List.all_eq_true.1 hall t hm)⟩)
  (by kernel_rfl)
#print axioms trainLess_card
end Go.Proofs.YtpjclnoehlflcaaGreatDoor
