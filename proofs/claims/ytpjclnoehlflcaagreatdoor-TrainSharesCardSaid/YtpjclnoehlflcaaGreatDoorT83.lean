/-
  The document's best sharing, in plain words: all of them, and the first of the best.
-/
import Derived.Test.YtpjclnoehlflcaaGreatDoorT82
namespace Go.Abs.Seat
noncomputable section
open Go Go.Abs
abbrev Ts :=List (List (Nat × Nat))
def rndM (tr:Nat → Nat × Nat → Option (List (Nat × Nat))) (f:Nat × Nat) (A:List Ts):Nat → List Ts
 | 0 => []
 |m + 1 => rndM tr f A m ++ (match tr (m + 1) f with | none => [] | some u => A.map (· ++ [u]))
def allL (tr:Nat → Nat × Nat → Option (List (Nat × Nat))) (P:Nat):List Ts → List (Nat × Nat) → List Ts
 |A,[] => A
 |A,f :: r => allL tr P (rndM tr f A P) r
theorem qf6 {tr:Nat → Nat × Nat → Option (List (Nat × Nat))} {f:Nat × Nat} {A:List Ts} {x:Ts}:∀ {m:Nat},x ∈ rndM tr f A m ↔ ∃ n u a,(1 ≤ n ∧ n ≤ m) ∧ tr n f = some u ∧ a ∈ A ∧ x = a ++ [u]
 | 0 => ⟨fun h => absurd h List.not_mem_nil,fun ⟨n,_,_,h,_⟩ => by omega⟩
 |m + 1 => by
  rw [rndM,List.mem_append,qf6 (m :=m)]
  constructor
  ·rintro (⟨n,u,a,h1,h2,h3,h4⟩ | h)
   ·exact ⟨n,u,a,by omega,h2,h3,h4⟩
   ·cases e:tr (m + 1) f with
    |none => rw [e] at h;cases h
    |some u =>
     rw [e] at h
     obtain ⟨a,h3,h4⟩ :=List.mem_map.1 h
     exact ⟨m + 1,u,a,by omega,e,h3,h4.symm⟩
  ·rintro ⟨n,u,a,h1,h2,h3,h4⟩
   by_cases e:n = m + 1
   ·subst e
    refine .inr ?_
    rw [h2]
    exact List.mem_map.2 ⟨a,h3,h4.symm⟩
   ·exact .inl ⟨n,u,a,by omega,h2,h3,h4⟩
theorem ql0 {tr:Nat → Nat × Nat → Option (List (Nat × Nat))} {P:Nat} {x:Ts}:∀ (fs:List (Nat × Nat)) (A:List Ts),x ∈ allL tr P A fs ↔ ∃ a w,a ∈ A ∧ pckd tr P fs w ∧ x = a ++ w
 | [],A => by
  rw [allL]
  constructor
  ·exact fun h => ⟨x,[],h,trivial,(List.append_nil x).symm⟩
  ·rintro ⟨a,w,h1,h2,rfl⟩
   cases w with
   |nil => rwa [List.append_nil]
   |cons _ _ => exact h2.elim
 |f :: r,A => by
  rw [allL,ql0 r]
  constructor
  ·rintro ⟨a,w,h1,h2,rfl⟩
   obtain ⟨n,u,b,k1,k2,k3,rfl⟩ :=qf6.1 h1
   exact ⟨b,u :: w,k3,⟨⟨n,k1,k2⟩,h2⟩,by rw [List.append_assoc];rfl⟩
  ·rintro ⟨a,w,h1,h2,rfl⟩
   cases w with
   |nil => exact h2.elim
   |cons u w =>
    obtain ⟨⟨n,k1,k2⟩,h2⟩ :=h2
    exact ⟨a ++ [u],w,qf6.2 ⟨n,u,a,k1,k2,h1,rfl⟩,h2,by rw [List.append_assoc];rfl⟩
theorem qht {tr:Nat → Nat × Nat → Option (List (Nat × Nat))} {f:Nat × Nat} {A:List Ts}:∀ m,(rndM tr f A m).length ≤ m * A.length
 | 0 => Nat.zero_le _
 |m + 1 => by
  have :=qht (tr :=tr) (f :=f) (A :=A) m
  rw [rndM,List.length_append,Nat.succ_mul]
  cases tr (m + 1) f with
  |none => show _ + 0 ≤ _;omega
  |some u => show _ + (A.map _).length ≤ _;rw [List.length_map];omega
def fldD (q t:Nat) (fs:List (Nat × Nat)):Option Ts → List Ts → Option Ts
 |o,[] => o
 |none,a :: r => fldD q t fs (if smA 0 a ≤ q then some a else none) r
 |some b,a :: r => fldD q t fs (if smA 0 a ≤ q ∧ prfB t fs a b = true then some a else some b) r
abbrev keyS (t:Nat) (fs:List (Nat × Nat)) (a:Ts):Sh :=(a,wrA t 0 fs a,smA 0 a)
theorem qi0 {q t:Nat} {fs:List (Nat × Nat)}:∀ (A:List Ts) (o:Option Ts),(∀ b,o = some b → b.length = fs.length ∧ smA 0 b ≤ q) → (∀ a,a ∈ A → a.length = fs.length) →
  (fldD q t fs o A = none → o = none ∧ ∀ a,a ∈ A → ¬ smA 0 a ≤ q) ∧ ∀ b,fldD q t fs o A = some b → (o = some b ∨ b ∈ A) ∧ smA 0 b ≤ q ∧ (∀ c,o = some c → ¬ ordS (keyS t fs c) (keyS t fs b) < 0) ∧ ∀ a,a ∈ A → smA 0 a ≤ q → ¬ ordS (keyS t fs a) (keyS t fs b) < 0
 | [],o,ho,_ => by
  rw [fldD]
  refine ⟨fun h => ⟨h,fun _ h => nomatch h⟩,fun b h => ⟨.inl h,(ho b h).2,fun c hc => ?_,fun _ h => nomatch h⟩⟩
  rw [h] at hc
  cases hc
  rw [(cmpS.eq _ _).2 rfl]
  decide
 |a :: r,none,_,hA => by
  rw [fldD]
  by_cases h1:smA 0 a ≤ q
  ·rw [if_pos h1]
   have k :=qi0 (q :=q) (t :=t) (fs :=fs) r (some a) (fun b hb => by cases hb;exact ⟨hA a List.mem_cons_self,h1⟩) fun x hx => hA x (List.mem_cons_of_mem _ hx)
   refine ⟨fun h => (by cases (k.1 h).1),fun b hb => ?_⟩
   obtain ⟨k1,k2,k3,k4⟩ :=k.2 b hb
   refine ⟨.inr ?_,k2,(fun _ h => nomatch h),fun x hx hq => ?_⟩
   ·rcases k1 with k1 | k1
    ·cases k1;exact List.mem_cons_self
    ·exact List.mem_cons_of_mem _ k1
   ·rcases List.mem_cons.1 hx with e | e
    ·subst e;exact k3 x rfl
    ·exact k4 x e hq
  ·rw [if_neg h1]
   have k :=qi0 (q :=q) (t :=t) (fs :=fs) r none (fun _ h => nomatch h) fun x hx => hA x (List.mem_cons_of_mem _ hx)
   refine ⟨fun h => ⟨rfl,fun x hx => ?_⟩,fun b hb => ?_⟩
   ·rcases List.mem_cons.1 hx with e | e
    ·subst e;exact h1
    ·exact (k.1 h).2 x e
   ·obtain ⟨k1,k2,k3,k4⟩ :=k.2 b hb
    refine ⟨.inr ?_,k2,(fun _ h => nomatch h),fun x hx hq => ?_⟩
    ·rcases k1 with k1 | k1
     ·cases k1
     ·exact List.mem_cons_of_mem _ k1
    ·rcases List.mem_cons.1 hx with e | e
     ·subst e;exact absurd hq h1
     ·exact k4 x e hq
 |a :: r,some c,ho,hA => by
  rw [fldD]
  have hc :=ho c rfl
  have ha :=hA a List.mem_cons_self
  by_cases h1:smA 0 a ≤ q ∧ prfB t fs a c = true
  ·rw [if_pos h1]
   have h2:ordS (keyS t fs a) (keyS t fs c) < 0 :=by
    have :=h1.2
    rw [qpr (by rw [ha,hc.1])] at this
    exact of_decide_eq_true this
   have k :=qi0 (q :=q) (t :=t) (fs :=fs) r (some a) (fun b hb => by cases hb;exact ⟨ha,h1.1⟩) fun x hx => hA x (List.mem_cons_of_mem _ hx)
   refine ⟨fun h => (by cases (k.1 h).1),fun b hb => ?_⟩
   obtain ⟨k1,k2,k3,k4⟩ :=k.2 b hb
   refine ⟨.inr ?_,k2,fun d hd => ?_,fun x hx hq => ?_⟩
   ·rcases k1 with k1 | k1
    ·cases k1;exact List.mem_cons_self
    ·exact List.mem_cons_of_mem _ k1
   ·cases hd
    intro z
    exact k3 a rfl (cmpS.tr _ _ _ h2 z)
   ·rcases List.mem_cons.1 hx with e | e
    ·subst e;exact k3 x rfl
    ·exact k4 x e hq
  ·rw [if_neg h1]
   have k :=qi0 (q :=q) (t :=t) (fs :=fs) r (some c) (fun b hb => by cases hb;exact hc) fun x hx => hA x (List.mem_cons_of_mem _ hx)
   refine ⟨fun h => (by cases (k.1 h).1),fun b hb => ?_⟩
   obtain ⟨k1,k2,k3,k4⟩ :=k.2 b hb
   refine ⟨?_,k2,k3,fun x hx hq => ?_⟩
   ·rcases k1 with k1 | k1
    ·exact .inl k1
    ·exact .inr (List.mem_cons_of_mem _ k1)
   ·rcases List.mem_cons.1 hx with e | e
    ·subst e
     intro z
     have h2:¬ ordS (keyS t fs x) (keyS t fs c) < 0 :=fun w => h1 ⟨hq,by rw [qpr (by rw [ha,hc.1])];exact zT w⟩
     have h3 :=k3 c rfl
     have hn :=cmpS.neg (keyS t fs x) (keyS t fs c)
     by_cases e:ordS (keyS t fs x) (keyS t fs c) = 0
     ·rw [(cmpS.eq _ _).1 e] at z
      exact h3 z
     ·exact h3 (cmpS.tr _ _ _ (by omega) z)
    ·exact k4 x e hq
end
end Go.Abs.Seat
