/-
  From a pure call to the kit's own words, with arguments.
-/
import Derived.Test.YtgojpjbbahljeaaGreatDoorA28
/-! From a pure call to the kit's own words, with arguments. -/
namespace Go.Abs
open Go
noncomputable section

/-- The ghost of a world that is all old: nobody writes below `m` of its blocks. -/
def ghOf (m : Nat → Nat) (w : World) : Gh := ⟨fun _ => 0, fun b => if b < w.heap.size then m b else 0, fun _ => 0, fun _ => 0, fun _ => 0⟩

theorem HRel.old (m : Nat → Nat) (w : World) : HRel (ghOf m w) w.heap.size w AH.nil where
  wf := fun _ _ => rfl
  ge := fun _ h => absurd rfl h
  inj := fun _ _ h => absurd rfl h
  rel := fun _ => trivial
  live := fun _ => trivial
  kp := fun _ => trivial
  imz := fun _ hb => if_neg (Nat.not_lt.2 hb)
  hB := Nat.le_refl _

theorem Pure.callsAt {P : Program} {f : FuncId} {args : List AV} {b : Bool} (h : Pure P f args (.bool b)) {w : World} {vs : Array Value} (m : Nat → Nat) (hv : VRels (ghOf m w) w args vs.toList) (hl : Lives noL args) :
    Calls P f vs w (fun e w' => e = .returned (.bool b) ∧ RowKit.Below w.heap.size w w') := by
  intro cs
  obtain ⟨g', fr', w', h1, h2, h3, u, h4, h5, _⟩ := h.2 w.heap.size AH.nil _ vs cs w (HRel.old m w) hv hl.ofNo
  simp only [VRel] at h5
  subst h5
  exact ⟨.returned (.bool b), w', fr', ⟨rfl, h1.below⟩, h2, h3, h4⟩

/-! What the arguments stand for. -/
theorem VRels.one {g : Gh} {w : World} {x : AV} {u : Value} {xs : List AV} {us : List Value} (h : VRel g w x u) (hs : VRels g w xs us) : VRels g w (x :: xs) (u :: us) := ⟨u, us, rfl, h, hs⟩
theorem VRels.nil' {g : Gh} {w : World} : VRels g w [] [] := rfl
theorem VRel.int' {g : Gh} {w : World} {k : IntKind} {n : Int} : VRel g w (.int k n) (.int k n) := rfl
theorem VRel.bool' {g : Gh} {w : World} {b : Bool} : VRel g w (.bool b) (.bool b) := rfl
theorem VRel.agg' {g : Gh} {w : World} {xs : List AV} {us : Array Value} (h : VRels g w xs us.toList) : VRel g w (.agg xs) (.agg us) := ⟨us, rfl, h⟩

end
end Go.Abs
