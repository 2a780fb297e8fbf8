/-
  The document's nearest train.
-/
import Derived.Test.YtpjclnoehlflcaaGreatDoorU11
import Derived.Test.YtpjclnoehlflcaaGreatDoorU7
import Derived.Test.YtpjclnoehlflcaaGreatDoorU9
/-! The document's nearest train. -/
namespace Go.Abs.Seat
noncomputable section
open Go Go.Abs Go.Proofs.Tryz
set_option maxRecDepth 100000
set_option maxHeartbeats 40000000
attribute [local irreducible] IntKind.wrap pEq
theorem gd_ft {x:Nat} {c:Bool} (h:c = true):@Bool.rec (fun _ => Bool) (@Bool.rec (fun _ => Bool) true false (x,false).snd) (x,false).snd c = false :=by subst h;rfl
theorem gd_ff {x:Nat} {c:Bool} (h:c = false):@Bool.rec (fun _ => Bool) (@Bool.rec (fun _ => Bool) true false (x,false).snd) (x,false).snd c = true :=by subst h;rfl
theorem gq_mem (l:List (Nat × Nat)) {i:Nat} (h:i < l.length):gq l i ∈ l :=by
 have :=drop_gq l h
 exact List.mem_of_mem_drop (this ▸ List.mem_cons_self)
theorem take_gq (l:List (Nat × Nat)) {i:Nat} (h:i < l.length):l.take (i + 1) = l.take i ++ [gq l i] :=by
 rw [List.take_succ_eq_append_getElem h]
 have h2 :=drop_gq l h
 rw [List.drop_eq_getElem_cons h] at h2
 rw [(List.cons.inj h2).1]
def OwI (tq:Nat → Prop) (k n d:Nat) (f q:Nat × Nat) (L:List (Nat × Nat)):Option (List (Nat × Nat)) → Prop
 |none => ∀ z t,z ∈ L → (dQ n d z).1 * q.2 = (dQ n d q).1 * z.2 → fstT tq k z.1 z.2 f ≠ some t
 |some w => (∃ z,z ∈ L ∧ (dQ n d z).1 * q.2 = (dQ n d q).1 * z.2 ∧ fstT tq k z.1 z.2 f = some w) ∧ ∀ z t,z ∈ L → (dQ n d z).1 * q.2 = (dQ n d q).1 * z.2 → fstT tq k z.1 z.2 f = some t → ¬ ltL t w
theorem OwI.zero {L:List (Nat × Nat)} {tq:Nat → Prop} {k n d:Nat} {f q:Nat × Nat}:OwI tq k n d f q (List.take 0 L) none :=fun _ _ h => by cases h
theorem OwI.skip {tq:Nat → Prop} {k n d:Nat} {f q z:Nat × Nat} {L:List (Nat × Nat)} {w:Option (List (Nat × Nat))} (h:OwI tq k n d f q L w) (hz:∀ t,(dQ n d z).1 * q.2 = (dQ n d q).1 * z.2 → fstT tq k z.1 z.2 f ≠ some t):OwI tq k n d f q (L ++ [z]) w :=by
 cases w with
 |none =>
  intro y t hy he
  rcases List.mem_append.1 hy with hy | hy
  ·exact h y t hy he
  ·rw [List.mem_singleton.1 hy] at he ⊢;exact hz t he
 |some w =>
  obtain ⟨⟨y,hy,he,hf⟩,hm⟩ :=h
  refine ⟨⟨y,List.mem_append_left _ hy,he,hf⟩,fun y t hy he hf => ?_⟩
  rcases List.mem_append.1 hy with hy | hy
  ·exact hm y t hy he hf
  ·rw [List.mem_singleton.1 hy] at he hf;exact absurd hf (hz t he)
theorem OwI.new {tq:Nat → Prop} {k n d:Nat} {f q z:Nat × Nat} {L:List (Nat × Nat)} {t:List (Nat × Nat)} (h:OwI tq k n d f q L none) (he:(dQ n d z).1 * q.2 = (dQ n d q).1 * z.2) (hf:fstT tq k z.1 z.2 f = some t):OwI tq k n d f q (L ++ [z]) (some t) :=by
 refine ⟨⟨z,List.mem_append_right _ (List.mem_singleton.2 rfl),he,hf⟩,fun y u hy he2 hf2 => ?_⟩
 rcases List.mem_append.1 hy with hy | hy
 ·exact absurd hf2 (h y u hy he2)
 ·rw [List.mem_singleton.1 hy,hf] at hf2
  cases hf2
  exact ltL_irr _
theorem OwI.lt {tq:Nat → Prop} {k n d:Nat} {f q z:Nat × Nat} {L:List (Nat × Nat)} {t w:List (Nat × Nat)} (h:OwI tq k n d f q L (some w)) (he:(dQ n d z).1 * q.2 = (dQ n d q).1 * z.2) (hf:fstT tq k z.1 z.2 f = some t) (hl:ltL t w):OwI tq k n d f q (L ++ [z]) (some t) :=by
 refine ⟨⟨z,List.mem_append_right _ (List.mem_singleton.2 rfl),he,hf⟩,fun y u hy he2 hf2 => ?_⟩
 rcases List.mem_append.1 hy with hy | hy
 ·exact fun e => h.2 y u hy he2 hf2 (ltL_trans e hl)
 ·rw [List.mem_singleton.1 hy,hf] at hf2
  cases hf2
  exact ltL_irr _
theorem OwI.ge {tq:Nat → Prop} {k n d:Nat} {f q z:Nat × Nat} {L:List (Nat × Nat)} {t w:List (Nat × Nat)} (h:OwI tq k n d f q L (some w)) (hf:fstT tq k z.1 z.2 f = some t) (hl:¬ ltL t w):OwI tq k n d f q (L ++ [z]) (some w) :=by
 obtain ⟨⟨y,hy,he,hf'⟩,hm⟩ :=h
 refine ⟨⟨y,List.mem_append_left _ hy,he,hf'⟩,fun y u hy he2 hf2 => ?_⟩
 rcases List.mem_append.1 hy with hy | hy
 ·exact hm y u hy he2 hf2
 ·rw [List.mem_singleton.1 hy,hf] at hf2
  cases hf2
  exact hl
theorem OwI.no {tq:Nat → Prop} (h1:∀ n,tq n → 1 ≤ n ∧ n ≤ 60) {a:Nat} (ha:∀ n,tq n → a ≤ n) {k M n d:Nat} (hd:1 ≤ d) (hM:60 ^ k < M) {q:Nat × Nat} {R L:List (Nat × Nat)} (hL:L = R) (hR:R = rnF (lstP (prodP tq k) M) n d) (hqR:q ∈ R) (h:OwI tq k n d (a,a) q L none):False :=by
 subst hL
 subst hR
 obtain ⟨t,ht⟩ :=ref_none2 h1 ha hd hM hqR
 exact h q t hqR rfl ht
theorem BO.all {tq:Nat → Prop} {P:Nat} {lets:Nat → Prop} {n d:Nat} {t:List (Nat × Nat)} (h:BO tq P lets n d (some t)):AllT tq t :=(show RT tq P lets t from h.1).2.2.all
theorem OwI.len {tq:Nat → Prop} {k n d:Nat} {f q:Nat × Nat} {L:List (Nat × Nat)} {w:List (Nat × Nat)} (h:OwI tq k n d f q L (some w)):w.length = k :=by
 obtain ⟨⟨_,_,_,hf⟩,_⟩ :=h
 exact Vt_len (fstT_of_some hf).1
end
end Go.Abs.Seat
