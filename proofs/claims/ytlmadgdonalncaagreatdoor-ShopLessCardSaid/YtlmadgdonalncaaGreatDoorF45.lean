/-
  ShopLess: the given card: whatever the input, the call returns true, and the input reads as it did.
-/
import Derived.Test.YtlmadgdonalncaaGreatDoorL47
import Derived.Test.YtlmadgdonalncaaGreatDoorU21
import Derived.Test.YtlmadgdonalncaaGreatDoorU22
namespace Go.Proofs.YtlmadgdonalncaaGreatDoor
open Go.ChangeShapes Go.WideShapes Go.ChangeAt Go.RowKit Go.Joins
open Go.Abs (VRels VRel ghOf noL Lives Live AV Own Pure)
set_option maxRecDepth 100000 in
theorem shopLess_lifted (os : Os) (started : os.Started) (H : Type) (enc : TypeId × Value → H) :
  ReturnsInHanded {} Tryz.checked os 9 .any (fun w args => (Rows.shopLessSpec.pre enc Tryz.prog Tryz.f9 [] false w args ∧ laidMetH Tryz.prog listed w) ∧ sizedMet enc Tryz.prog Tryz.f9 (OpenSpec.ofChange Rows.shopLessSpec) false w args)
   (Rows.shopLessSpec.post enc Tryz.prog Tryz.f9 false true false false) := by
 refine returnsInHanded_of_change_and (C := Tryz.checked) (X := fun w _ => laidMetH Tryz.prog listed w) (fun _ _ _ hh h => h.of_heap hh) ownKnobNone started (by kernel_rfl) Tryz.func9
  (ChangeSpec.witness_shaped (enc := enc) (C := Tryz.checked) (os := os) (X := fun w _ => laidMetH Tryz.prog listed w) false (World.laidAll Tryz.prog os listed) #[.int .i64 0, .int .i64 0, .slice none 0 0, .int .i64 0, .int .i64 0, .slice none 0 0, .slice none 0 0, .int .i64 0, .int .i64 0, .int .i64 0, .agg #[.int .i64 0, .int .i64 0, .int .i64 0]] 8 (World.laidAll_os _ _ _)
   (World.shaped_of_ZipB (by kernel_rfl) (by kernel_rfl)) (by kernel_rfl) (by kernel_rfl) (by kernel_rfl) (listed_met os _)) ?_
 intro W base args ds gs before hval0 hW _ _ _ _
 have hval : ∀ (j : Nat) t v, Tryz.f9.params[j]? = some t → args[j]? = some v → Value.okWide Tryz.prog W .any base t v := hval0
 have hW2 := hW
 obtain ⟨p, q, hA0, hV, rfl, _, _⟩ := hW
 have hA : DataW.TrodAll enc Tryz.prog W 0 (fun _ => true) true Tryz.f9.params.toList args.toList ds p := hA0
 rw [Tryz.params9] at hA hval
 obtain ⟨v0, v1, v2, v3, v4, v5, v6, v7, v8, v9, v10, d0, d1, d2, d3, d4, d5, d6, d7, d8, d9, d10, p0, p1, p2, p3, p4, p5, p6, p7, p8, p9, p10, rfl, rfl, rfl, h0, h1, h2, h3, h4, h5, h6, h7, h8, h9, h10⟩ := trodAll_eleven hA
 obtain ⟨rfl, rfl⟩ := trodVars_none hV
 obtain ⟨a0, rfl, rfl, rfl, _⟩ := open_int Tryz.underlying3 (hval 0 3 v0 rfl rfl) h0
 obtain ⟨a1, rfl, rfl, rfl, _⟩ := open_int Tryz.underlying3 (hval 1 3 v1 rfl rfl) h1
 obtain ⟨x2, k2, N2, l2, t2, R2⟩ := ints_arg Tryz.underlying24 (by kernel_rfl) Tryz.underlying3 (hval 2 24 v2 rfl rfl) h2
 obtain ⟨a3, rfl, rfl, rfl, _⟩ := open_int Tryz.underlying3 (hval 3 3 v3 rfl rfl) h3
 obtain ⟨a4, rfl, rfl, rfl, _⟩ := open_int Tryz.underlying3 (hval 4 3 v4 rfl rfl) h4
 obtain ⟨x5, k5, N5, l5, t5, R5⟩ := trips_arg Tryz.underlying40 (by kernel_rfl) (trI_struct3 Tryz.underlying55 rfl rfl rfl (by kernel_rfl) (by kernel_rfl) (by kernel_rfl) (by kernel_rfl) (trI_int Tryz.underlying3 (by kernel_rfl)) (trI_int Tryz.underlying3 (by kernel_rfl)) (trI_int Tryz.underlying3 (by kernel_rfl))) (hval 5 40 v5 rfl rfl) h5
 obtain ⟨x6, k6, N6, l6, t6, R6⟩ := trips_arg Tryz.underlying41 (by kernel_rfl) (trI_struct3 Tryz.underlying53 rfl rfl rfl (by kernel_rfl) (by kernel_rfl) (by kernel_rfl) (by kernel_rfl) (trI_int Tryz.underlying3 (by kernel_rfl)) (trI_int Tryz.underlying3 (by kernel_rfl)) (trI_int Tryz.underlying3 (by kernel_rfl))) (hval 6 41 v6 rfl rfl) h6
 obtain ⟨a7, rfl, rfl, rfl, _⟩ := open_int Tryz.underlying3 (hval 7 3 v7 rfl rfl) h7
 obtain ⟨a8, rfl, rfl, rfl, _⟩ := open_int Tryz.underlying3 (hval 8 3 v8 rfl rfl) h8
 obtain ⟨a9, rfl, rfl, rfl, _⟩ := open_int Tryz.underlying3 (hval 9 3 v9 rfl rfl) h9
 obtain ⟨a10, b10, c10, rfl⟩ := trip_arg Tryz.underlying55 (by kernel_rfl) (trI_struct3 Tryz.underlying55 rfl rfl rfl (by kernel_rfl) (by kernel_rfl) (by kernel_rfl) (by kernel_rfl) (trI_int Tryz.underlying3 (by kernel_rfl)) (trI_int Tryz.underlying3 (by kernel_rfl)) (trI_int Tryz.underlying3 (by kernel_rfl))) (hval 10 55 v10 rfl rfl) h10
 refine (Pure.callsAt (Go.Abs.Seat.shopLess Go.Abs.Seat.pknown a0 a1 t2 a3 a4 t5 t6 a7 a8 a9 a10 b10 c10) (fun _ => N2 + N5 + N6) (w := W) (vs := #[.int .i64 a0, .int .i64 a1, v2, .int .i64 a3, .int .i64 a4, v5, v6, .int .i64 a7, .int .i64 a8, .int .i64 a9, .agg #[.int .i64 a10, .int .i64 b10, .int .i64 c10]])
  (.one rfl (.one rfl (.one (R2 _ (by omega)) (.one rfl (.one rfl (.one (R5 _ (by omega)) (.one (R6 _ (by omega)) (.one rfl (.one rfl (.one rfl (.one (.agg' (.one rfl (.one rfl (.one rfl rfl)))) rfl))))))))))) ⟨trivial, trivial, l2, trivial, trivial, l5, l6, trivial, trivial, trivial, ⟨trivial, trivial, trivial, trivial⟩, trivial⟩).mono fun e W2 ⟨he, hb⟩ => ?_
 subst he
 exact ⟨_, rfl, law_post laidOutProg (by kernel_rfl) rfl Tryz.underlying4 rfl rfl hW2 hb⟩

theorem shopLess_holds : Rows.ShopLessSaid :=
 OpenClaim.holds_of_wide 9 Tryz.f9 rfl rfl rfl rfl rfl rfl rfl ⟨rfl, rfl, rfl, rfl, rfl⟩ rfl rfl rfl rfl rfl (by kernel_rfl) Tryz.func9 (by kernel_rfl)
  (of_decide_eq_true (by kernel_rfl)) (by unfold Func.isWrapper; first | (rw [if_pos (by decide +kernel)]; kernel_rfl) | (rw [if_neg (by decide +kernel)]; exact ⟨rfl, rfl⟩))
  (fun os started H enc _ => shopLess_lifted os started H enc)

theorem shopLess_card : Rows.ShopLessCardSaid :=
 Claim7.holds_tied_plain_at .later [] [.data, .data, .data, .data, .pinned] true (true, "60b469ea42033640b1891e3a380a631c71d43b076c90fd14a96666f986b8abc6") true shopLess_holds (fun _ h => by cases h) (by kernel_rfl) (fun _ h => by cases h) shopLess_row_tie rfl ⟨rfl, rfl⟩ (by kernel_rfl) rfl
  (fun f fn hf hfn => by
   obtain rfl : f = 9 := Option.some.inj ((show Tryz.prog.funcNamed "tellurion/tellurionlaw09.ShopLess" = some 9 by kernel_rfl).symm.trans hf) |>.symm
   obtain rfl : fn = Tryz.f9 := (Option.some.inj (Tryz.func9.symm.trans hfn)).symm
   exact ⟨by kernel_rfl, fun j t ht => by
    rw [Tryz.params9] at ht
    have hm : t ∈ [3, 3, 24, 3, 3, 40, 41, 3, 3, 3, 55] := by simpa using Array.mem_of_getElem? ht
    have hall : ([3, 3, 24, 3, 3, 40, 41, 3, 3, 3, 55].all fun u => !Tryz.prog.wantsStandIn u) = true := by kernel_rfl
    exact (show Tryz.prog.wantsStandIn t = false by simpa using List.all_eq_true.1 hall t hm)⟩)
  (by kernel_rfl)
#print axioms shopLess_card
end Go.Proofs.YtlmadgdonalncaaGreatDoor
