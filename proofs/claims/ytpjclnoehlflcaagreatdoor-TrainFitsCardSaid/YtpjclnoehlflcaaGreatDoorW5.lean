/-
  A rule as argument, opened; lists of pairs.
-/
import Derived.Test.YtpjclnoehlflcaaGreatDoorW3
import Derived.Test.YtpjclnoehlflcaaGreatDoorT35
/-! A rule as argument, opened; lists of pairs. -/
namespace Go.Proofs.YtpjclnoehlflcaaGreatDoor
open Go.ChangeShapes Go.WideShapes Go.ChangeAt Go.RowKit Go.Joins Go.Deep
open Go.Abs (VRels VRel LRel ghOf noL Lives Live AV Own Pure Gh)
open Go.Abs.Seat (ivs nl ivs_len IL rv PQ pv)

theorem array5 {α : Type} {cs : Array α} (h : cs.size = 5) : ∃ c0 c1 c2 c3 c4, cs = #[c0, c1, c2, c3, c4] := by
  obtain ⟨l⟩ := cs
  match l, h with
  | [c0, c1, c2, c3, c4], _ => exact ⟨c0, c1, c2, c3, c4, rfl⟩

section
variable {H : Type} {enc : TypeId × Value → H} {P : Program} {w : World} {base : Nat} {spare : Nat → Bool} {held : Bool}
theorem trod_struct5 {t : TypeId} {f0 f1 f2 f3 f4 : Field} {fuel : Nat} {cs : List Value} {x : DataW H × List MemPlace} (ht : P.underlying t = some (.struct #[f0, f1, f2, f3, f4])) (h : DataW.trod enc P w base spare held fuel t cs = some x) :
    ∃ y0 y1 y2 y3 y4 n, x = (.agg [y0.1, y1.1, y2.1, y3.1, y4.1], y0.2 ++ (y1.2 ++ (y2.2 ++ (y3.2 ++ y4.2)))) ∧ cs.length = P.cellsOf t ∧ DataW.trod enc P w base spare held n f0.type ((cs.drop f0.offset).take (P.cellsOf f0.type)) = some y0 ∧
      DataW.trod enc P w base spare held n f1.type ((cs.drop f1.offset).take (P.cellsOf f1.type)) = some y1 ∧ DataW.trod enc P w base spare held n f2.type ((cs.drop f2.offset).take (P.cellsOf f2.type)) = some y2 ∧
      DataW.trod enc P w base spare held n f3.type ((cs.drop f3.offset).take (P.cellsOf f3.type)) = some y3 ∧ DataW.trod enc P w base spare held n f4.type ((cs.drop f4.offset).take (P.cellsOf f4.type)) = some y4 := by
  obtain ⟨xs, n, _, rfl, hl, hlen, hf⟩ := DataW.trod_struct ht h
  match xs, hlen with
  | [y0, y1, y2, y3, y4], _ => exact ⟨y0, y1, y2, y3, y4, n, by simp, hl, by simpa using hf 0 f0 rfl, by simpa using hf 1 f1 rfl, by simpa using hf 2 f2 rfl, by simpa using hf 3 f3 rfl, by simpa using hf 4 f4 rfl⟩
end

theorem wf_range {n : Int} (h : (Lit.int .i64 n).wf = true) : -9223372036854775808 ≤ n ∧ n < 9223372036854775808 := by
  simp [Lit.wf] at h
  have e : IntKind.i64.min = -9223372036854775808 := by decide
  omega

/-- A rule that comes in. -/
theorem rule_arg {H : Type} {enc : TypeId × Value → H} {P : Program} {w : World} {base0 : Nat} {t te u0 u1 u2 u3 : TypeId} {f0 f1 f2 f3 f4 : Field} {v : Value} {d : DataW H} {p : List MemPlace}
    (hs : P.underlying t = some (.struct #[f0, f1, f2, f3, f4])) (hone : oneCellFields P #[f0, f1, f2, f3, f4] = true) (hC : P.cellsOf t = 5) (hct : P.cellTypes P.depth t = some [u0, u1, u2, u3, f4.type])
    (i0 : P.underlying f0.type = some (.int .i64)) (i1 : P.underlying f1.type = some (.int .i64)) (i2 : P.underlying f2.type = some (.int .i64)) (i3 : P.underlying f3.type = some (.int .i64))
    (ht : P.underlying f4.type = some (.slice te)) (ce : P.cellsOf te = 1) (ie : P.underlying te = some (.int .i64))
    (hv : Value.okWide P w .any base0 t v) (h : DataW.Trod enc P w 0 (fun _ => true) true t v d p) :
    ∃ (a b c s : Int) (x : AV) (l : List Int) (N : Nat), Live noL x ∧ IL x l ∧ (-9223372036854775808 ≤ s ∧ s < 9223372036854775808) ∧ ∀ M, N ≤ M → VRel (ghOf (fun _ => M) w) w (rv a b c s x) v := by
  have hv2 := hv
  obtain ⟨cs, rfl, hsz⟩ := okWide_struct hs hv
  obtain ⟨c0, c1, c2, c3, c4, rfl⟩ := array5 (hsz.trans hC)
  obtain ⟨fuel, hf⟩ := h
  obtain ⟨y0, y1, y2, y3, y4, n, hx, _, h0, h1, h2, h3, h4⟩ := trod_struct5 hs hf
  obtain ⟨o0, k0⟩ := hone_of hone 0 f0 rfl
  obtain ⟨o1, k1⟩ := hone_of hone 1 f1 rfl
  obtain ⟨o2, k2⟩ := hone_of hone 2 f2 rfl
  obtain ⟨o3, k3⟩ := hone_of hone 3 f3 rfl
  obtain ⟨o4, k4⟩ := hone_of hone 4 f4 rfl
  have g0 : DataW.trod enc P w 0 (fun _ => true) true n f0.type [c0] = some y0 := by simpa [Value.cells, o0, k0] using h0
  have g1 : DataW.trod enc P w 0 (fun _ => true) true n f1.type [c1] = some y1 := by simpa [Value.cells, o1, k1] using h1
  have g2 : DataW.trod enc P w 0 (fun _ => true) true n f2.type [c2] = some y2 := by simpa [Value.cells, o2, k2] using h2
  have g3 : DataW.trod enc P w 0 (fun _ => true) true n f3.type [c3] = some y3 := by simpa [Value.cells, o3, k3] using h3
  have g4 : DataW.trod enc P w 0 (fun _ => true) true n f4.type [c4] = some y4 := by simpa [Value.cells, o4, k4] using h4
  obtain ⟨a, e0, _, _⟩ := DataW.trod_int i0 g0
  obtain ⟨b, e1, _, _⟩ := DataW.trod_int i1 g1
  obtain ⟨c, e2, _, _⟩ := DataW.trod_int i2 g2
  obtain ⟨s, e3, _, w3⟩ := DataW.trod_int i3 g3
  simp at e0 e1 e2 e3
  subst e0 e1 e2 e3
  simp only [Value.okWide, hs] at hv2
  obtain ⟨cs2, ecs, _, ts, ets, _, hrow⟩ := hv2
  cases ecs
  rw [hct] at ets
  cases ets
  obtain ⟨u, hu, hcell⟩ := hrow 4 c4 rfl
  have hu : u = f4.type := by simpa using hu.symm
  subst hu
  have hv4 : Value.okWide P w .any base0 f4.type c4 := by simp only [Value.okWide, ht]; exact hcell
  obtain ⟨a4, len, cap, rfl⟩ := okWide_slice ht hv4
  obtain ⟨x, l, N, l0, il, R⟩ := ints_arg (enc := enc) (d := y4.1) (p := y4.2) ht ce ie hv4 ⟨n, by simpa [Value.cells] using g4⟩
  exact ⟨a, b, c, s, x, l, N, l0, il, wf_range w3, fun M hM => ⟨_, rfl, _, _, rfl, rfl, _, _, rfl, rfl, _, _, rfl, rfl, _, _, rfl, rfl, _, _, rfl, R M hM, rfl⟩⟩

theorem pairq_arg {H : Type} {enc : TypeId × Value → H} {P : Program} {w : World} {base0 : Nat} {ts te : TypeId} {f0 f1 : Field} {v : Value} {d : DataW H} {p : List MemPlace}
    (ht : P.underlying ts = some (.slice te)) (he : P.underlying te = some (.struct #[f0, f1])) (ce : P.cellsOf te = 2) (o0 : f0.offset = 0) (o1 : f1.offset = 1) (c0 : P.cellsOf f0.type = 1) (c1 : P.cellsOf f1.type = 1)
    (i0 : P.underlying f0.type = some (.int .i64)) (i1 : P.underlying f1.type = some (.int .i64))
    (hv : Value.okWide P w .any base0 ts v) (h : DataW.Trod enc P w 0 (fun _ => true) true ts v d p) :
    ∃ (x : AV) (l : List (Int × Int)) (N : Nat), Live noL x ∧ PQ x l ∧ ∀ M, N ≤ M → VRel (ghOf (fun _ => M) w) w x v := by
  rcases open_pairs ht he ce o0 o1 c0 c1 i0 i1 hv h with rfl | ⟨l, N, hr⟩
  · exact ⟨.nils, [], 0, trivial, .inl ⟨rfl, rfl⟩, fun _ _ => rfl⟩
  · exact ⟨pv l, l, N, Go.Abs.Seat.pv_no l, .inr rfl, hr⟩
end Go.Proofs.YtpjclnoehlflcaaGreatDoor
