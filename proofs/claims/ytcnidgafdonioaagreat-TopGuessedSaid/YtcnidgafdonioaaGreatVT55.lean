/-
  The document's nearest train.
-/
import Derived.Test.YtcnidgafdonioaaGreatVU10
import Derived.Test.YtcnidgafdonioaaGreatVU7
import Derived.Test.YtcnidgafdonioaaGreatVU9
namespace Go.Abs.Seat
noncomputable section
open Go Go.Abs Go.Proofs.Tryz
set_option maxRecDepth 100000
set_option maxHeartbeats 40000000
attribute [local irreducible] IntKind.wrap pEq
theorem nth_zp1:∀ (l:List (Nat × Nat)) (i:Nat),i < l.length → nth (flat (zp l)) (i * 2 + 1) = some (nv (gq l i).2)
 | [],_,h => absurd h (Nat.not_lt_zero _)
 | _ :: _,0,_ => rfl
 | _ :: r,i + 1,h => by
  rw [show (i + 1) * 2 + 1 = i * 2 + 1 + 1 + 1 by omega]
  exact nth_zp1 r i (by simpa using h)
def OwI (tq:Nat → Prop) (k n d:Nat) (f q:Nat × Nat) (L:List (Nat × Nat)):Option (List (Nat × Nat)) → Prop
 |none => ∀ z t,z ∈ L → (dQ n d z).1 * q.2 = (dQ n d q).1 * z.2 → fstT tq k z.1 z.2 f ≠ some t
 |some w => (∃ z,z ∈ L ∧ (dQ n d z).1 * q.2 = (dQ n d q).1 * z.2 ∧ fstT tq k z.1 z.2 f = some w) ∧ ∀ z t,z ∈ L → (dQ n d z).1 * q.2 = (dQ n d q).1 * z.2 → fstT tq k z.1 z.2 f = some t → ¬ ltL t w
theorem OwI.skip {tq:Nat → Prop} {k n d:Nat} {f q z:Nat × Nat} {L:List (Nat × Nat)} {w:Option (List (Nat × Nat))} (h:OwI tq k n d f q L w) (hz:∀ t,(dQ n d z).1 * q.2 = (dQ n d q).1 * z.2 → fstT tq k z.1 z.2 f ≠ some t):OwI tq k n d f q (L ++ [z]) w :=by
 cases w with
 |none =>
  intro y t hy he
  rcases List.mem_append.1 hy with hy | hy
  ·exact h y t hy he
  ·rw [List.mem_singleton.1 hy] at he ⊢;exact hz t he
 |some w =>
  obtain ⟨⟨y,hy,he,hf⟩,hm⟩ :=h
  refine ⟨⟨y,List.mem_append_left _ hy,he,hf⟩,fun y t hy he hf => ?_⟩
  rcases List.mem_append.1 hy with hy | hy
  ·exact hm y t hy he hf
  ·rw [List.mem_singleton.1 hy] at he hf;exact absurd hf (hz t he)
theorem OwI.lt {tq:Nat → Prop} {k n d:Nat} {f q z:Nat × Nat} {L:List (Nat × Nat)} {t w:List (Nat × Nat)} (h:OwI tq k n d f q L (some w)) (he:(dQ n d z).1 * q.2 = (dQ n d q).1 * z.2) (hf:fstT tq k z.1 z.2 f = some t) (hl:ltL t w):OwI tq k n d f q (L ++ [z]) (some t) :=by
 refine ⟨⟨z,List.mem_append_right _ (List.mem_singleton.2 rfl),he,hf⟩,fun y u hy he2 hf2 => ?_⟩
 rcases List.mem_append.1 hy with hy | hy
 ·exact fun e => h.2 y u hy he2 hf2 (ltL_trans e hl)
 ·rw [List.mem_singleton.1 hy,hf] at hf2
  cases hf2
  exact ltL_irr _
theorem OwI.ge {tq:Nat → Prop} {k n d:Nat} {f q z:Nat × Nat} {L:List (Nat × Nat)} {t w:List (Nat × Nat)} (h:OwI tq k n d f q L (some w)) (hf:fstT tq k z.1 z.2 f = some t) (hl:¬ ltL t w):OwI tq k n d f q (L ++ [z]) (some w) :=by
 obtain ⟨⟨y,hy,he,hf'⟩,hm⟩ :=h
 refine ⟨⟨y,List.mem_append_left _ hy,he,hf'⟩,fun y u hy he2 hf2 => ?_⟩
 rcases List.mem_append.1 hy with hy | hy
 ·exact hm y u hy he2 hf2
 ·rw [List.mem_singleton.1 hy,hf] at hf2
  cases hf2
  exact hl
theorem OwI.no {tq:Nat → Prop} (h1:∀ n,tq n → 1 ≤ n ∧ n ≤ 60) {a:Nat} (ha:∀ n,tq n → a ≤ n) {k M n d:Nat} (hd:1 ≤ d) (hM:60 ^ k < M) {q:Nat × Nat} {R L:List (Nat × Nat)} (hL:L = R) (hR:R = rnF (lstP (prodP tq k) M) n d) (hqR:q ∈ R) (h:OwI tq k n d (a,a) q L none):False :=by
 subst hL
 subst hR
 obtain ⟨t,ht⟩ :=ref_none2 h1 ha hd hM hqR
 exact h q t hqR rfl ht
theorem BO.all {tq:Nat → Prop} {P:Nat} {lets:Nat → Prop} {n d:Nat} {t:List (Nat × Nat)} (h:BO tq P lets n d (some t)):AllT tq t :=(show RT tq P lets t from h.1).2.2.all
theorem nth_zp0:∀ (l:List (Nat × Nat)) (i:Nat),i < l.length → nth (flat (zp l)) (i * 2) = some (nv (gq l i).1)
 | [],_,h => absurd h (Nat.not_lt_zero _)
 | _ :: _,0,_ => rfl
 | _ :: r,i + 1,h => by
  rw [show (i + 1) * 2 = i * 2 + 1 + 1 by omega]
  exact nth_zp0 r i (by simpa using h)
end
end Go.Abs.Seat
