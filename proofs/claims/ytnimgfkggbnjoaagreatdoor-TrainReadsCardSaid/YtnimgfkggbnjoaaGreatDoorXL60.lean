/-
  The law TrainPrints.
-/
import Derived.Test.YtnimgfkggbnjoaaGreatDoorXB146
import Derived.Test.YtnimgfkggbnjoaaGreatDoorXB148
import Derived.Test.YtnimgfkggbnjoaaGreatDoorXU8
namespace Go.Abs.Seat
noncomputable section
open Go Go.Abs Go.Proofs.Tryz
set_option maxRecDepth 100000
set_option maxHeartbeats 40000000
attribute [local irreducible] IntKind.wrap pEq
theorem qwz {N:AV} {l:List Int} (h:IL N l) (hl:l.length < 4611686018427387904) {a b p s:Int} (ho:rOk a b p s l):Pure prog 10 [rv a b p s N] (.bool true) :=qje h hl a b p s (Iff.intro (fun _ => ho) fun _ => rfl)
theorem qw0 {N:AV} {l:List Int} (h:IL N l) (hl:l.length < 4611686018427387904) {a b p s:Int} (ho:¬ rOk a b p s l):Pure prog 10 [rv a b p s N] (.bool false) :=qje h hl a b p s (Iff.intro (fun e => nomatch e) fun z => absurd z ho)
theorem qym {X:AV} {Ls:List (List (Int × Int))} (h:XQ X Ls) (hl:Ls.length < 4611686018427387904) (hll:∀ i,i < Ls.length → (gLs Ls i).length < 4611686018427387904) (ho:okTs Ls):Pure prog 11 [X] (.bool true) :=qlf h hl hll (Iff.intro (fun _ => ho) fun _ => rfl)
theorem qyn {X:AV} {Ls:List (List (Int × Int))} (h:XQ X Ls) (hl:Ls.length < 4611686018427387904) (hll:∀ i,i < Ls.length → (gLs Ls i).length < 4611686018427387904) (ho:¬ okTs Ls):Pure prog 11 [X] (.bool false) :=qlf h hl hll (Iff.intro (fun e => nomatch e) fun z => absurd z ho)
end
end Go.Abs.Seat
