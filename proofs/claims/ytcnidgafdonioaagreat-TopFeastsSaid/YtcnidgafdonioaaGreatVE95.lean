/-
  The law TopFeasts, all that is as defined.
-/
import Derived.Test.YtcnidgafdonioaaGreatVE91
import Derived.Test.YtcnidgafdonioaaGreatVE92
import Derived.Test.YtcnidgafdonioaaGreatVE93
import Derived.Test.YtcnidgafdonioaaGreatVE94
namespace Go.Abs.Seat
noncomputable section
open Go Go.Abs Go.Proofs.Tryz
set_option maxRecDepth 100000
set_option maxHeartbeats 40000000
attribute [local irreducible] IntKind.wrap pEq pSlice
theorem topFeasts_yes (hk:Pure prog 7 [] (.bool true)) {E:Int} {C:List Int} (hcal:calOk E C) {n d a:Int} (hm:moonOk n d a) {l:List Ft} (hl:ftsOk l) (h1:1 ≤ l.length) (y:Nat) (hy:y ≤ 4000)
  {v:AV} {k p g:Nat} (hv:TV v k p g) (fn fd m:Nat) (hn:fn ≤ 50000) (hnd:1 ≤ fd ∧ fd ≤ 50000) (hml:m ≤ 10800) (u:Nat) (hu:u ≤ 10000) :
  Pure prog 4 [.agg [iv E,nl C],mnV n d a,ftL l,nv y,v,fv (Int.ofNat fn) (Int.ofNat fd),nv m,nv u] (.bool true) :=by
 have hx :=fun M (hM:M = 400) => topFeasts_a hk hcal hm hl h1 y hy hv fn fd m hn hnd hml u hu (M :=M) hM
 have hb :=fun M (hM:M = 400) => topFeasts_b hk hcal hm hl h1 y hy hv fn fd m hn hnd hml u hu (M :=M) hM
 have hc :=fun M (hM:M = 400) => topFeasts_c hk hcal hm hl h1 y hy hv fn fd m hn hnd hml u hu (M :=M) hM
 have hd :=fun M (hM:M = 400) => topFeasts_d hk hcal hm hl h1 y hy hv fn fd m hn hnd hml u hu (M :=M) hM
 obtain ⟨M,hM⟩ : ∃ M:Nat,M = 400 :=⟨_,rfl⟩
 have hx :=hx M hM
 have hb :=hb M hM
 have hc :=hc M hM
 have hd :=hd M hM
 by_cases c1:okS (f20 (dsL (ftD E C n d a y) l l.length) (fdY E C y) M) (lastV p g fn fd m) u (2 ^ (f20 (dsL (ftD E C n d a y) l l.length) (fdY E C y) M).length) = []
 ·exact hx (.inl c1)
 ·by_cases c2:f20 (dsL (ftD E C n d a y) l l.length) (fdY E C y) M = []
  ·exact hx (.inr c2)
  ·by_cases c3:bstS (okS (f20 (dsL (ftD E C n d a y) l l.length) (fdY E C y) M) (lastV p g fn fd m) u (2 ^ (f20 (dsL (ftD E C n d a y) l l.length) (fdY E C y) M).length)) = []
   ·by_cases c4:f20 (dsL (ftD E C n d a y) l l.length).tail (fdY E C y) M = []
    ·exact hb ⟨c1,c2,c3,c4⟩
    ·exact hc ⟨c1,c2,c3,c4⟩
   ·exact hd ⟨c1,c2,c3⟩
end
end Go.Abs.Seat
