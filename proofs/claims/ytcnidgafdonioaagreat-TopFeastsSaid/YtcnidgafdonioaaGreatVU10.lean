/-
  The document's lists of settings.
-/
import Derived.Test.YtcnidgafdonioaaGreatVU8
import Derived.Test.YtcnidgafdonioaaGreatVU7
namespace Go.Abs.Seat
noncomputable section
open Go Go.Abs Go.Proofs.Tryz
set_option maxRecDepth 100000
set_option maxHeartbeats 40000000
attribute [local irreducible] IntKind.wrap pEq
def WkVs:List AV → List AV → Prop
 | [],[] => True
 |x :: xs,y :: ys => WkV x y ∧ WkVs xs ys
 | _,_ => False
theorem WkVs.refl:∀ xs,WkVs xs xs
 | [] => trivial
 |x :: xs => ⟨WkV.refl x,WkVs.refl xs⟩
theorem WkVs.len:∀ {xs ys:List AV},WkVs xs ys → xs.length = ys.length
 | [],[],_ => rfl
 | _ :: _,_ :: _,h => by rw [List.length_cons,List.length_cons,WkVs.len h.2]
theorem WkVs.cells {g:Gh} {w:World}:∀ {xs ys:List AV} (b off:Nat),WkVs xs ys → LRel g w xs b off → LRel g w ys b off
 | [],[],_,_,_,h => h
 | _ :: _,_ :: _,b,off,k,h => by
  obtain ⟨⟨u,hu,hv⟩,hr⟩ :=h
  exact ⟨⟨u,hu,k.1.wk _ _ _ hv⟩,WkVs.cells b (off + 1) k.2 hr⟩
theorem WkVs.live {L:Nat → Prop}:∀ {xs ys:List AV},WkVs xs ys → Lives L xs → Lives L ys
 | [],[],_,h => h
 | _ :: _,_ :: _,k,h => ⟨k.1.lv _ h.1,WkVs.live k.2 h.2⟩
theorem WkVs.lst {xs ys:List AV} (h:WkVs xs ys) (n:Nat) (own:Own):WkV (.lst xs n own) (.lst ys n own) :=by
 refine ⟨fun g w u hu => ?_,fun L hl => ⟨h.live hl.1,hl.2⟩⟩
 simp only [VRel] at hu ⊢
 obtain ⟨b,off,cap,h1,h2,h3,h4,h5⟩ :=hu
 exact ⟨b,off,cap,h1,h2,by rw [← h.len];exact h3,h.cells b off h4,h5⟩
theorem _root_.Go.Abs.WkV.trans {a b c:AV} (h:WkV a b) (k:WkV b c):WkV a c :=⟨fun _ _ _ hu => k.wk _ _ _ (h.wk _ _ _ hu),fun _ hl => k.lv _ (h.lv _ hl)⟩

end
end Go.Abs.Seat
