/-
  The search for plans; all plans that are in time.
-/
import Derived.Test.YtlmadgdonalncaaGreatDoorB89
namespace Go.Abs.Seat
noncomputable section
open Go Go.Abs Go.Proofs.Tryz
set_option maxRecDepth 100000
set_option maxHeartbeats 40000000
attribute [local irreducible] IntKind.wrap pEq
instance (W J:List LkI) (P:List Int):Decidable (inTm W J P) :=Classical.propDecidable _
def srQP (W J:List LkI):Nat → List Int → List Pln
 | 0,now => if inTm W J now then [(now,wgJ W J now now.length)] else []
 |f + 1,now => ndP W J now.length (fun n => srQP W J f (now ++ [Int.ofNat n])) W.length
theorem qkb {W J:List LkI} {i m:Nat} {g:Nat → List Pln} (h:∀ n,(g n).length ≤ m):∀ k,(ndP W J i g k).length ≤ k * m
 | 0 => Nat.zero_le _
 |k + 1 => by
  have h1 :=qkb (W :=W) (J :=J) (i :=i) h k
  have h2 :=h k
  rw [ndP,List.length_append,Nat.succ_mul]
  split
  ·omega
  ·simp only [List.length_nil];omega
theorem qg9 {W J:List LkI} (hW:W.length ≤ 3):∀ (f:Nat) (now:List Int),(srQP W J f now).length ≤ 3 ^ f
 | 0,now => by
  rw [srQP];split
  ·exact Nat.le_refl _
  ·exact Nat.zero_le _
 |f + 1,now => by
  rw [srQP,Nat.pow_succ,Nat.mul_comm]
  exact Nat.le_trans (qkb (fun n => qg9 hW f _) W.length) (Nat.mul_le_mul_right _ hW)
def pfP (W J:List LkI) (now:List Int):Prop :=∀ i,i < now.length → qqg W J now i
theorem qjx {W J:List LkI} {now:List Int} {n:Nat} (h:pfP W J now) (hn:n < W.length) (hl:lvP W J now.length n):pfP W J (now ++ [Int.ofNat n]) :=fun i hi => by
  rw [List.length_append,List.length_singleton] at hi
  by_cases e:i < now.length
  · have :=h i e
    unfold qqg at this ⊢
    have e1:gi (now ++ [Int.ofNat n]) i = gi now i :=by
      show List.getD _ _ _ = List.getD _ _ _
      simp [List.getD,List.getElem?_append_left e]
    rw [e1];exact this
  · obtain rfl:i = now.length :=by omega
    have e1:gi (now ++ [Int.ofNat n]) now.length = Int.ofNat n :=by
      show List.getD _ _ _ = _
      simp [List.getD]
    unfold qqg
    rw [e1]
    exact ⟨⟨Int.natCast_nonneg n, by have : (n : Int) ≤ (W.length : Int) - 1 := by omega
                                     exact this⟩,hl⟩
theorem qn6 {W J:List LkI} (hW:areW W) (hJ:areJ J):∀ (f:Nat) (now:List Int) (LS:List Pln),now ≠ [] → now.length + f = J.length → pfP W J now → LS.length + 3 ^ f ≤ 1000 → HP W J (nl now) (lsP LS) (lsP (LS ++ srQP W J f now))
 | 0,now,LS,hne,hl,hp,hb => by
  have hpl:isPl W J now :=⟨hl,hp⟩
  rw [srQP]
  have hb:LS.length ≤ 1000 :=by simp at hb;omega
  by_cases c:inTm W J now
  ·rw [if_pos c]
   by_cases e:LS = []
   ·subst e;exact qqf hW hJ hpl c
   ·exact qqe e hb hW hJ hpl c
  ·rw [if_neg c,List.append_nil]
   by_cases e:LS = []
   ·subst e;exact qsq hW hJ hpl c
   ·exact qsp e hb hW hJ hpl c
 |f + 1,now,LS,hne,hl,hp,hb => by
  have hi:now.length < J.length :=by omega
  have hW3 :=hW.1.2
  rw [Nat.pow_succ] at hb
  have step:∀ n,n < W.length → lvP W J now.length n → HP W J (nl (now ++ [Int.ofNat n])) (lsP (LS ++ ndP W J now.length (fun n => srQP W J f (now ++ [Int.ofNat n])) n)) (lsP (LS ++ ndP W J now.length (fun n => srQP W J f (now ++ [Int.ofNat n])) n ++ srQP W J f (now ++ [Int.ofNat n]))) :=fun n hn hlv => by
   have hlen :=qkb (W :=W) (J :=J) (i :=now.length) (m :=3 ^ f) (g :=fun n => srQP W J f (now ++ [Int.ofNat n])) (fun n => qg9 hW3 f _) n
   have h3:n * 3 ^ f ≤ 2 * 3 ^ f :=Nat.mul_le_mul_right _ (by omega)
   exact qn6 hW hJ f (now ++ [Int.ofNat n]) _ (by simp) (by rw [List.length_append,List.length_singleton];omega) (qjx hp hn hlv) (by rw [List.length_append];omega)
  rw [srQP]
  by_cases e:LS = []
  ·subst e
   exact qxy hW hJ hne hi fun n hn hlv => by have :=step n hn hlv;simpa using this
  ·exact qxx hW hJ hne e hi step
def plL (W J:List LkI):List Pln :=srQP W J J.length []
theorem qpw {W J:List LkI} (hW:areW W) (hJ:areJ J):HP W J .nils none (lsP (plL W J)) :=by
 obtain ⟨f,hf⟩ : ∃ f,J.length = f + 1 :=⟨J.length - 1,by have :=hJ.1.1;omega⟩
 have hW3 :=hW.1.2
 have hJ6 :=hJ.1.2
 have h35:3 ^ f ≤ 3 ^ 5 :=Nat.pow_le_pow_right (by decide) (by omega)
 unfold plL
 rw [hf,srQP]
 refine qxz hW hJ (by omega) fun n hn hlv => ?_
 have hlen :=qkb (W :=W) (J :=J) (i :=0) (m :=3 ^ f) (g :=fun n => srQP W J f ([] ++ [Int.ofNat n])) (fun n => qg9 hW3 f _) n
 have h3:n * 3 ^ f ≤ 2 * 3 ^ f :=Nat.mul_le_mul_right _ (by omega)
 exact qn6 hW hJ f [Int.ofNat n] _ (by simp) (by rw [hf,List.length_singleton];omega) (qjx (now :=[]) (fun i h => absurd h (Nat.not_lt_zero _)) hn hlv) (by omega)
def plV:List Pln → AV
 | [] => .nils
 |x :: r => .lst (plE (x :: r)) (x :: r).length .no
theorem qp1 {W J:List LkI} (hW:areW W) (hJ:areJ J):Pure prog 75 [lkA W,lkA J] (plV (plL W J)) :=by
 have lW :=qau W
 have lJ :=qau J
 have hs :=qpw hW hJ
 obtain ⟨L,hL⟩ : ∃ L,L = plL W J :=⟨_,rfl⟩
 rw [← hL] at hs ⊢
 cases L with
 |nil =>
  have hs:HP W J .nils none none :=hs
  refine qas hE rfl (by repeat' first|exact trivial|assumption|exact qag _|exact fun _ h => nomatch h|apply And.intro) (by repeat' first|exact trivial|assumption|exact qag _|exact fun _ h => nomatch h|apply And.intro) fun S q pc hS hq hC hE => ?_
  conv => whnf
  refine qar hC ?_
  conv => whnf
  refine qfh hS hs (by exact kle rfl) (by repeat' (first|exact trivial|exact .inl rfl|exact .inr rfl|apply And.intro)) rfl ?_
  conv => whnf
  exact ⟨_,rfl,Wk.refl _⟩
 |cons x r =>
  have lS :=qep (x :: r)
  have hs:HP W J .nils none (some (plE (x :: r),(x :: r).length)) :=hs
  refine qas hE rfl (by repeat' first|exact trivial|assumption|exact qag _|exact fun _ h => nomatch h|apply And.intro) (by repeat' first|exact trivial|assumption|exact qag _|exact fun _ h => nomatch h|apply And.intro) fun S q pc hS hq hC hE => ?_
  conv => whnf
  refine qar hC ?_
  conv => whnf
  refine qfg hS hs (by exact kle rfl) (by exact kle rfl) (by repeat' (first|exact trivial|exact .inl rfl|exact .inr rfl|apply And.intro)) rfl rfl rfl ?_
  conv => whnf
  exact ⟨_,rfl,(WkV.own _ _ _).wk⟩

end
end Go.Abs.Seat
