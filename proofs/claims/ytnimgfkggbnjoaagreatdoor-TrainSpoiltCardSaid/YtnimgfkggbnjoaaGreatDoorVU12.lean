/-
  The text of a piece, as the program writes it.
-/
import Derived.Test.YtnimgfkggbnjoaaGreatDoorVU10
import Derived.Test.YtnimgfkggbnjoaaGreatDoorVB54
import Derived.Test.YtnimgfkggbnjoaaGreatDoorVU4
import Derived.Test.YtnimgfkggbnjoaaGreatDoorVU5
import Derived.Test.YtnimgfkggbnjoaaGreatDoorVU8
namespace Go.Abs.Seat
noncomputable section
open Go Go.Abs Go.Proofs.Tryz
set_option maxRecDepth 100000
set_option maxHeartbeats 40000000
attribute [local irreducible] IntKind.wrap pEq
def gB (l:List (List UInt8)) (i:Nat):List UInt8 :=l.getD i []
def ckL (s:List UInt8) (i:Nat):Nat → Nat
 | 0 => 0
 |k + 1 => ckL s i k + (s.getD k 0).toNat * (k + 1) * (i + 1)
def ckN (l:List (List UInt8)):Nat → Nat
 | 0 => 0
 |i + 1 => ckN l i + ckL (gB l i) i (gB l i).length
def ouB (l:List (List UInt8)):Nat → List UInt8
 | 0 => []
 |i + 1 => ouB l i ++ (gB l i ++ [10])
def finB (o:List UInt8) (c:Nat):List UInt8 :=((((o ++ [101,110,100,32]) ++ dec (c / 100)) ++ dec (c / 10 % 10)) ++ dec (c % 10)) ++ [10]
theorem qas {xs:List AV} (h:Lives noL xs) {k c n:Nat} (hc:c + 1 ≤ n):bd (.lst xs k (.ch c)) ≤ n :=Nat.max_le.2 ⟨hc,qak h⟩
theorem qv7 {s:List UInt8} {i:Nat}:∀ k,ckL s i k ≤ k * (256 * (k * (i + 1)))
 | 0 => Nat.zero_le _
 |k + 1 => by
  have ih :=@qv7 s i k
  rw [ckL]
  have hb:(s.getD k 0).toNat ≤ 256 :=Nat.le_of_lt (UInt8.toNat_lt _)
  have h1:k * (256 * (k * (i + 1))) ≤ k * (256 * ((k + 1) * (i + 1))) :=Nat.mul_le_mul_left _ (Nat.mul_le_mul_left _ (Nat.mul_le_mul_right _ (Nat.le_succ k)))
  have h2:(s.getD k 0).toNat * (k + 1) * (i + 1) ≤ 256 * ((k + 1) * (i + 1)) :=by rw [Nat.mul_assoc];exact Nat.mul_le_mul_right _ hb
  have h3:(k + 1) * (256 * ((k + 1) * (i + 1))) = k * (256 * ((k + 1) * (i + 1))) + 256 * ((k + 1) * (i + 1)) :=Nat.succ_mul _ _
  omega
end
end Go.Abs.Seat
namespace Go.Abs.Seat
noncomputable section
open Go Go.Abs Go.Proofs.Tryz
set_option maxRecDepth 100000
set_option maxHeartbeats 40000000
attribute [local irreducible] IntKind.wrap pEq Utf8.decode
def noP (s:List UInt8):List (AV × Bool) :=[(.iface 78 (.agg [.str s]),false)]
theorem nx_f {p n:Nat} {a b:Plan} (h:decide (p < n) = false):(match decide (p < n) with | true => a | false => b) = b :=by rw [h]
theorem nx_t {p n:Nat} {a b:Plan} (h:decide (p < n) = true):(match decide (p < n) with | true => a | false => b) = a :=by rw [h]
theorem qe7 {l:List UInt8} {p:Nat} (_h:p < l.length) (hb:(l.getD p 0).toNat < 128):Utf8.decode ⟨l.toArray⟩ p = ((l.getD p 0).toNat,1) :=by
 have e:(ByteArray.mk l.toArray).get! (p + 0) = l.getD p 0 :=by
  simp [ByteArray.get!,List.getD]
  rfl
 unfold Utf8.decode
 simp only [e,if_pos hb]
theorem qsg {l:List UInt8} {p:Nat} (_h:p < l.length) (hb:¬ (l.getD p 0).toNat < 128):128 ≤ (Utf8.decode ⟨l.toArray⟩ p).1 :=by
 have e:(ByteArray.mk l.toArray).get! (p + 0) = l.getD p 0 :=by
  simp [ByteArray.get!,List.getD]
  rfl
 unfold Utf8.decode
 simp only [e,if_neg hb]
 have r:128 ≤ Utf8.runeError :=by decide
 split
 ·split
  ·simpa using ‹_›
  ·exact r
 ·split
  ·split
   ·rename_i h1
    simp only [Bool.and_eq_true,decide_eq_true_eq] at h1
    exact Nat.le_trans (by decide) h1.1
   ·exact r
  ·split
   ·split
    ·rename_i h1
     simp only [Bool.and_eq_true,decide_eq_true_eq] at h1
     exact Nat.le_trans (by decide) h1.1
    ·exact r
   ·exact r
theorem qk7 {l:List UInt8} {p:Nat} (h:p < l.length):(48 ≤ (l.getD p 0).toNat ∧ (l.getD p 0).toNat ≤ 57 ∧ Utf8.decode ⟨l.toArray⟩ p = ((l.getD p 0).toNat,1)) ∨ ¬ (48 ≤ (l.getD p 0).toNat ∧ (l.getD p 0).toNat ≤ 57) ∧ ¬ (48 ≤ (Utf8.decode ⟨l.toArray⟩ p).1 ∧ (Utf8.decode ⟨l.toArray⟩ p).1 ≤ 57) :=by
 by_cases hb:(l.getD p 0).toNat < 128
 ·have e :=qe7 h hb
  by_cases c:48 ≤ (l.getD p 0).toNat ∧ (l.getD p 0).toNat ≤ 57
  ·exact .inl ⟨c.1,c.2,e⟩
  ·exact .inr ⟨c,by rw [e];exact c⟩
 ·have e :=qsg h hb
  exact .inr ⟨fun z => by omega,fun z => by omega⟩
theorem dgv:∀ x,x < 58 → 48 ≤ x → IntKind.i64.wrap (IntKind.i32.wrap (Int.ofNat x - 48)) = Int.ofNat (x - 48) :=by decide +kernel
end
end Go.Abs.Seat
namespace Go.Abs.Seat
noncomputable section
open Go Go.Abs Go.Proofs.Tryz
set_option maxRecDepth 100000
set_option maxHeartbeats 40000000
attribute [local irreducible] pEq
theorem qej (c:UInt8):∀ s p,p ∈ spl c s → p.length ≤ s.length
 | [],p,h => by
  rw [spl] at h
  rw [List.mem_singleton.1 h]
  exact Nat.le_refl _
 |b :: r,p,h => by
  have ih :=qej c r
  rw [spl] at h
  split at h
  ·rcases List.mem_cons.1 h with rfl | h
   ·exact Nat.zero_le _
   ·have :=ih p h
    simp only [List.length_cons];omega
  ·split at h
   ·rename_i e
    exact absurd e (qes c r)
   ·rename_i x t e
    rcases List.mem_cons.1 h with rfl | h
    ·have :=ih x (by rw [e];exact List.mem_cons_self ..)
     simp only [List.length_cons];omega
    ·have :=ih p (by rw [e];exact List.mem_cons_of_mem _ h)
     simp only [List.length_cons];omega
end
end Go.Abs.Seat
namespace Go.Abs.Seat
noncomputable section
open Go Go.Abs Go.Proofs.Tryz
set_option maxRecDepth 100000
set_option maxHeartbeats 40000000
attribute [local irreducible] IntKind.wrap pEq
theorem qa4 {l:List (List UInt8)} {i:Nat} (h:i < l.length):nth (stA l) (i * 1) = some (.str (gB l i)) :=by
 rw [qe2,Nat.mul_one]
 unfold stA gB
 rw [List.getElem?_map,List.getElem?_eq_getElem h]
 simp [List.getD,h]
end
end Go.Abs.Seat
namespace Go.Abs.Seat
noncomputable section
open Go Go.Abs Go.Proofs.Tryz
set_option maxRecDepth 100000
set_option maxHeartbeats 40000000
attribute [local irreducible] pEq qbt IntKind.wrap
theorem takN:∀ (n:Nat) (l:List AV),n ≤ l.length → qei n l = some (l.take n)
 | 0,l,_ => by cases l <;> rfl
 |n + 1,[],h => absurd h (Nat.not_succ_le_zero _)
 |n + 1,x :: r,h => by
  have :=takN n r (Nat.le_of_succ_le_succ h)
  simp only [qei,this,List.take_succ_cons]
theorem drpN:∀ (n:Nat) (l:List AV),qfs n l = l.drop n
 | 0,l => by cases l <;> rfl
 |n + 1,[] => rfl
 |n + 1,x :: r => drpN n r
theorem qh5 {T:Tr TypeInfo} {t e:TypeId} {inf:TypeInfo} {L:List (List UInt8)} {k1 k2:IntKind} {x y:Int} {a n:Nat} (hT:tyU T t = some (.slice e)) (hi:T.get e = some inf) (h1:inf.size = 1) (hx:x = Int.ofNat a) (hy:y = Int.ofNat (a + n)) (hb:a + n ≤ L.length):qbt T t (.lst (stA L) L.length .no) (some (.int k1 x)) (some (.int k2 y)) = .chk true (.ret (.lst (stA ((L.drop a).take n)) n .no)) :=by
 subst hx hy
 unfold qbt
 rw [hT]
 have e1:bnd (some (.int k2 (Int.ofNat (a + n)))) L.length L.length = some (a + n) :=by
  have z1:decide ((0:Int) ≤ Int.ofNat (a + n)) = true :=decide_eq_true (Int.natCast_nonneg _)
  have z2:decide (Int.ofNat (a + n) ≤ (L.length:Int)) = true :=decide_eq_true (Int.ofNat_le.2 hb)
  simp only [bnd]
  show (match decide ((0:Int) ≤ Int.ofNat (a + n)) && decide (Int.ofNat (a + n) ≤ (L.length:Int)) with | true => some (Int.ofNat (a + n)).toNat | false => none) = some (a + n)
  rw [z1,z2];rfl
 have e2:bnd (some (.int k1 (Int.ofNat a))) 0 (a + n) = some a :=by
  have z1:decide ((0:Int) ≤ Int.ofNat a) = true :=decide_eq_true (Int.natCast_nonneg _)
  have z2:decide (Int.ofNat a ≤ ((a + n:Nat):Int)) = true :=decide_eq_true (Int.ofNat_le.2 (Nat.le_add_right _ _))
  simp only [bnd]
  show (match decide ((0:Int) ≤ Int.ofNat a) && decide (Int.ofNat a ≤ ((a + n:Nat):Int)) with | true => some (Int.ofNat a).toNat | false => none) = some a
  rw [z1,z2];rfl
 have e3:decide (a * inf.size ≤ (stA L).length) = true :=decide_eq_true (by rw [h1,qex];omega)
 have e4:qei (n * inf.size) (qfs (a * inf.size) (stA L)) = some (stA ((L.drop a).take n)) :=by
  rw [h1,Nat.mul_one,Nat.mul_one,drpN,takN _ _ (by rw [List.length_drop,qex];omega)]
  unfold stA
  rw [← List.map_drop,← List.map_take]
 simp only [hi,e1,e2,e3,e4,Nat.add_sub_cancel_left]
theorem qbm (L:List (List UInt8)) {a n i:Nat} (h:a + n ≤ L.length) (hi:i < n):nth (stA ((L.drop a).take n)) (i * 1) = some (.str (gB L (i + a))) :=by
 have l1:i < ((L.drop a).take n).length :=by rw [List.length_take,List.length_drop];omega
 rw [qa4 l1]
 have e:gB ((L.drop a).take n) i = gB L (i + a) :=by
  simp only [gB,List.getD_eq_getElem?_getD]
  rw [List.getElem?_take_of_lt hi,List.getElem?_drop,Nat.add_comm]
 rw [e]
theorem qb7 (c:UInt8) (s:List UInt8):(spl c s).length ≤ s.length + 1 :=by
 rw [qln]
 exact Nat.succ_le_succ List.count_le_length
theorem qg4 (H:List Nat) {i:Nat} (h:i ≤ H.length):qdq (ivs (zl (H.take i))) (i * 1) = true :=by
 have :=qd3 (ivs (zl (H.take i)))
 rw [ivs_len,qbe,List.length_take,Nat.min_eq_left h] at this
 rwa [Nat.mul_one]
end
end Go.Abs.Seat
namespace Go.Abs.Seat
noncomputable section
open Go Go.Abs Go.Proofs.Tryz
set_option maxRecDepth 100000
set_option maxHeartbeats 40000000
attribute [local irreducible] IntKind.wrap pEq qbt
theorem qqd (c:UInt8):∀ u,(∀ b,b ∈ u → b ≠ c) → spl c u = [u]
 | [],_ => rfl
 |b :: r,h => by rw [spl,if_neg (h b (List.mem_cons_self ..)),qqd c r fun x hx => h x (List.mem_cons_of_mem _ hx)]
theorem qnb (c:UInt8) (v:List UInt8):∀ u,(∀ b,b ∈ u → b ≠ c) → spl c (u ++ c :: v) = u :: spl c v
 | [],_ => by rw [List.nil_append,spl,if_pos rfl]
 |b :: r,h => by rw [List.cons_append,spl,if_neg (h b (List.mem_cons_self ..)),qnb c v r fun x hx => h x (List.mem_cons_of_mem _ hx)]
def frB (c:UInt8) (s:List UInt8):Nat → Nat
 | 0 => 0
 |i + 1 => if s.getD i 0 = c then i + 1 else frB c s i
def ptB (c:UInt8) (s:List UInt8):Nat → List (List UInt8)
 | 0 => []
 |i + 1 => if s.getD i 0 = c then ptB c s i ++ [(s.drop (frB c s i)).take (i - frB c s i)] else ptB c s i
theorem qoe (c:UInt8) (s:List UInt8):∀ i,frB c s i ≤ i
 | 0 => Nat.le_refl _
 |i + 1 => by
  have :=qoe c s i
  rw [frB]
  split <;> omega
theorem qqn (c:UInt8) (s:List UInt8):∀ i,(ptB c s i).length ≤ i
 | 0 => Nat.le_refl _
 |i + 1 => by
  have :=qqn c s i
  rw [ptB]
  split
  ·rw [List.length_append,List.length_singleton];omega
  ·omega
theorem qvm (c:UInt8) (s:List UInt8):∀ i,i ≤ s.length → spl c s = ptB c s i ++ spl c (s.drop (frB c s i)) ∧ ∀ b,b ∈ (s.drop (frB c s i)).take (i - frB c s i) → b ≠ c
 | 0,_ => ⟨rfl,fun b h => by simp at h⟩
 |i + 1,hi => by
  obtain ⟨h1,h2⟩ :=qvm c s i (by omega)
  have hf :=qoe c s i
  have hlt:i < s.length :=hi
  have hg:s.getD i 0 = s[i] :=by simp [List.getD,hlt]
  have e1:s.drop (frB c s i) = (s.drop (frB c s i)).take (i - frB c s i) ++ s[i] :: s.drop (i + 1) :=by
   rw [← List.drop_eq_getElem_cons hlt]
   have :=(List.take_append_drop (i - frB c s i) (s.drop (frB c s i))).symm
   rw [List.drop_drop,show frB c s i + (i - frB c s i) = i by omega] at this
   exact this
  by_cases e:s.getD i 0 = c
  ·rw [frB,ptB,if_pos e,if_pos e]
   refine ⟨?_,fun b h => by simp at h⟩
   have k :=qnb c (s.drop (i + 1)) _ h2
   rw [hg] at e
   rw [e] at e1
   rw [← e1] at k
   rw [h1,k,List.append_assoc];rfl
  ·rw [frB,ptB,if_neg e,if_neg e]
   refine ⟨h1,fun b hb => ?_⟩
   rw [e1,show i + 1 - frB c s i = (i - frB c s i) + 1 by omega,List.take_append,List.length_take,List.length_drop] at hb
   rcases List.mem_append.1 hb with hb | hb
   ·exact h2 b (List.mem_of_mem_take hb)
   ·rw [show i - frB c s i + 1 - min (i - frB c s i) (s.length - frB c s i) = 1 by omega] at hb
    have hb:b ∈ [s[i]] :=hb
    rw [List.mem_singleton.1 hb,← hg];exact e
theorem qvn (c:UInt8) (s:List UInt8):spl c s = ptB c s s.length ++ [s.drop (frB c s s.length)] :=by
 obtain ⟨h1,h2⟩ :=qvm c s s.length (Nat.le_refl _)
 have hf :=qoe c s s.length
 rw [List.take_of_length_le (by rw [List.length_drop];exact Nat.le_refl _)] at h2
 exact h1.trans (by rw [qqd c _ h2])
theorem qqb (l:List (List UInt8)) (x:List UInt8):stA l ++ [.str x] = stA (l ++ [x]) :=by
 unfold stA
 rw [List.map_append];rfl
theorem qon {l:List (List UInt8)} {k c n:Nat} (hc:c + 1 ≤ n):bd (.lst (stA l) k (.ch c)) ≤ n :=Nat.max_le.2 ⟨hc,qak (qax l)⟩
theorem qvg {xs ys:List AV} {n m c:Nat} (e:AV.lst xs n (.ch c) = .lst ys m (.ch c)):Wk (.lst xs n (.ch c)) (.lst ys m .no) :=by
 cases e
 exact (WkV.own _ _ _).wk
theorem qca {l:List (List UInt8)}:qdq (stA l) (l.length * 1) = true :=by
 rw [Nat.mul_one,← qex]
 exact qd3 _
theorem qs8 (a b:UInt8):((Int.ofNat a.toNat) == (Int.ofNat b.toNat)) = decide (a = b) :=by
 by_cases h:a = b
 ·rw [decide_eq_true h,h];exact beq_self_eq_true _
 ·rw [decide_eq_false h]
  exact beq_eq_false_iff_ne.2 fun z => h (UInt8.toNat_inj.1 (Int.ofNat.inj z))
end
end Go.Abs.Seat
namespace Go.Abs.Seat
noncomputable section
open Go Go.Abs Go.Proofs.Tryz
set_option maxRecDepth 100000
set_option maxHeartbeats 40000000
attribute [local irreducible] pEq qbt IntKind.wrap
theorem qzc:∀ n,n < 100 → ∀ x,x ∈ dec n → 48 ≤ x.toNat ∧ x.toNat ≤ 57 :=by decide +kernel
theorem qsi {n:Nat} (h:n < 100) {c:UInt8} (hc:c = 10 ∨ c = 32):∀ b,b ∈ dec n → b ≠ c :=fun b hb e => by
 have :=qzc n h b hb
 rw [e] at this
 rcases hc with rfl | rfl
 ·exact absurd this.1 (by decide)
 ·exact absurd this.1 (by decide)
theorem qhr {a b:List UInt8} {c:UInt8} (ha:∀ x,x ∈ a → x ≠ c) (hb:∀ x,x ∈ b → x ≠ c):∀ x,x ∈ a ++ b → x ≠ c :=fun x hx => (List.mem_append.1 hx).elim (ha x) (hb x)
theorem qyl {l:List (List UInt8)} (h:∀ w,w ∈ l → ∀ b,b ∈ w → b ≠ 10) (x:List UInt8):∀ i,i ≤ l.length → spl 10 (ouB l i ++ x) = l.take i ++ spl 10 x :=by
 intro i
 induction i generalizing x with
 |zero => intro _;rfl
 |succ i ih =>
  intro hi
  have hlt:i < l.length :=hi
  have e:gB l i = l[i] :=by simp [gB,List.getD,hlt]
  rw [ouB,List.append_assoc,List.append_assoc,ih _ (by omega)]
  show _ ++ spl 10 (gB l i ++ 10 :: x) = _
  rw [qnb 10 x (gB l i) (h _ (by rw [e];exact List.getElem_mem hlt)),List.take_succ_eq_append_getElem hlt,e,List.append_assoc]
  rfl
def endL (c:Nat):List UInt8 :=[101,110,100,32] ++ (dec (c / 100) ++ (dec (c / 10 % 10) ++ dec (c % 10)))
theorem qvy (o:List UInt8) (c:Nat):finB o c = o ++ (endL c ++ [10]) :=by
 unfold finB endL
 simp only [List.append_assoc]
theorem qxs {c:Nat} (h:c < 1000):∀ x,x ∈ endL c → x ≠ 10 :=qhr (by decide) (qhr (qsi (by omega) (.inl rfl)) (qhr (qsi (by omega) (.inl rfl)) (qsi (by omega) (.inl rfl))))
theorem qiy {l r:List (List UInt8)} {i:Nat} (h:i < l.length):gB (l ++ r) i = gB l i :=by
 simp only [gB,List.getD_eq_getElem?_getD,List.getElem?_append_left h]
theorem qr5 {α:Type} (P:Nat → α → Prop) (d:α):∀ n,(∃ l:List α,l.length = n ∧ ∀ i,i < n → P i (l.getD i d)) ∨ ∃ l:List α,l.length < n ∧ (∀ i,i < l.length → P i (l.getD i d)) ∧ ¬ ∃ a,P l.length a
 | 0 => .inl ⟨[],rfl,fun i h => absurd h (Nat.not_lt_zero _)⟩
 |n + 1 => by
  rcases qr5 P d n with ⟨l,hl,h⟩ | ⟨l,hl,h,hb⟩
  ·by_cases k:∃ a,P n a
   ·obtain ⟨a,ha⟩ :=k
    refine .inl ⟨l ++ [a],by rw [List.length_append,hl];rfl,fun i hi => ?_⟩
    by_cases e:i < n
    ·have:(l ++ [a]).getD i d = l.getD i d :=by
      simp only [List.getD_eq_getElem?_getD]
      rw [List.getElem?_append_left (by omega)]
     rw [this]
     exact h i e
    ·have e2:i = n :=by omega
     have:(l ++ [a]).getD i d = a :=by
      simp only [List.getD_eq_getElem?_getD]
      rw [List.getElem?_append_right (by omega),e2,hl,Nat.sub_self]
      rfl
     rw [this,e2]
     exact ha
   ·exact .inr ⟨l,by omega,by rw [hl];exact h,by rw [hl];exact k⟩
  ·exact .inr ⟨l,by omega,h,hb⟩
end
end Go.Abs.Seat
namespace Go.Abs.Seat
noncomputable section
open Go Go.Abs
set_option maxRecDepth 100000
set_option maxHeartbeats 40000000
theorem qqc (c d:UInt8) (hd:d ≠ c):∀ (s:List UInt8) (i:Nat),i < s.length → s.getD i 0 ≠ c → ∃ j k,j < (spl c s).length ∧ k < (gB (spl c s) j).length ∧ (gB (spl c s) j).getD k 0 = s.getD i 0 ∧ spl c (s.set i d) = (spl c s).set j ((gB (spl c s) j).set k d)
 | [],i,h,_ => absurd h (Nat.not_lt_zero _)
 |b :: r,0,_,hb => by
  have hb:b ≠ c :=hb
  cases e:spl c r with
  |nil => exact absurd e (qes c r)
  |cons x t =>
   have e1:spl c (b :: r) = (b :: x) :: t :=by rw [spl,if_neg hb,e]
   have e2:spl c (d :: r) = (d :: x) :: t :=by rw [spl,if_neg hd,e]
   refine ⟨0,0,?_,?_,?_,?_⟩
   ·rw [e1];exact Nat.succ_pos _
   ·rw [e1];exact Nat.succ_pos _
   ·rw [e1];rfl
   ·show spl c (d :: r) = _
    rw [e1,e2];rfl
 |b :: r,i + 1,h,hb => by
  obtain ⟨j,k,h1,h2,h3,h4⟩ :=qqc c d hd r i (Nat.lt_of_succ_lt_succ h) hb
  by_cases e:b = c
  ·have e1:spl c (b :: r) = [] :: spl c r :=by rw [spl,if_pos e]
   have e2:spl c (b :: r.set i d) = [] :: spl c (r.set i d) :=by rw [spl,if_pos e]
   refine ⟨j + 1,k,?_,?_,?_,?_⟩
   ·rw [e1];exact Nat.succ_lt_succ h1
   ·rw [e1];exact h2
   ·rw [e1];exact h3
   ·show spl c (b :: r.set i d) = _
    rw [e1,e2,h4];rfl
  ·cases f:spl c r with
   |nil => exact absurd f (qes c r)
   |cons x t =>
    have e1:spl c (b :: r) = (b :: x) :: t :=by rw [spl,if_neg e,f]
    rw [f] at h1 h2 h3 h4
    cases j with
    |zero =>
     have e2:spl c (b :: r.set i d) = (b :: x.set k d) :: t :=by rw [spl,if_neg e,h4];rfl
     refine ⟨0,k + 1,?_,?_,?_,?_⟩
     ·rw [e1];exact Nat.succ_pos _
     ·rw [e1];exact Nat.succ_lt_succ h2
     ·rw [e1];exact h3
     ·show spl c (b :: r.set i d) = _
      rw [e1,e2];rfl
    |succ j =>
     have e2:spl c (b :: r.set i d) = (b :: x) :: t.set j ((gB t j).set k d) :=by rw [spl,if_neg e,h4];rfl
     refine ⟨j + 1,k,?_,?_,?_,?_⟩
     ·rw [e1];exact h1
     ·rw [e1];exact h2
     ·rw [e1];exact h3
     ·show spl c (b :: r.set i d) = _
      rw [e1,e2];rfl
theorem qso {s:List UInt8} {i k:Nat} {d:UInt8} (hk:k < s.length):∀ n,n ≤ s.length → ckL (s.set k d) i n + (if k < n then (s.getD k 0).toNat * (k + 1) * (i + 1) else 0) = ckL s i n + (if k < n then d.toNat * (k + 1) * (i + 1) else 0)
 | 0,_ => rfl
 |n + 1,hn => by
  have ih :=qso (d :=d) (i :=i) hk n (by omega)
  rw [ckL,ckL]
  by_cases e:n = k
  ·subst e
   rw [if_neg (Nat.lt_irrefl _),if_neg (Nat.lt_irrefl _)] at ih
   rw [if_pos (Nat.lt_succ_self _),if_pos (Nat.lt_succ_self _)]
   have g:(s.set n d).getD n 0 = d :=by simp [List.getD,hk]
   rw [g]
   omega
  ·have g:(s.set k d).getD n 0 = s.getD n 0 :=by
    simp only [List.getD_eq_getElem?_getD]
    rw [List.getElem?_set_ne (Ne.symm e)]
   rw [g]
   by_cases f:k < n
   ·rw [if_pos f,if_pos f] at ih
    rw [if_pos (by omega),if_pos (by omega)]
    omega
   ·rw [if_neg f,if_neg f] at ih
    rw [if_neg (by omega),if_neg (by omega)]
    omega
theorem qsn {l:List (List UInt8)} {j k:Nat} {d:UInt8} (hj:j < l.length) (hk:k < (gB l j).length):∀ n,n ≤ l.length → ckN (l.set j ((gB l j).set k d)) n + (if j < n then ((gB l j).getD k 0).toNat * (k + 1) * (j + 1) else 0) = ckN l n + (if j < n then d.toNat * (k + 1) * (j + 1) else 0)
 | 0,_ => rfl
 |n + 1,hn => by
  have ih :=qsn (d :=d) hj hk n (by omega)
  rw [ckN,ckN]
  by_cases e:n = j
  ·subst e
   rw [if_neg (Nat.lt_irrefl _),if_neg (Nat.lt_irrefl _)] at ih
   rw [if_pos (Nat.lt_succ_self _),if_pos (Nat.lt_succ_self _)]
   have g:gB (l.set n ((gB l n).set k d)) n = (gB l n).set k d :=by simp [gB,List.getD,hj]
   rw [g]
   have q :=qso (s :=gB l n) (i :=n) (d :=d) hk ((gB l n).length) (Nat.le_refl _)
   rw [if_pos hk,if_pos hk] at q
   rw [List.length_set]
   omega
  ·have g:gB (l.set j ((gB l j).set k d)) n = gB l n :=by
    simp only [gB,List.getD_eq_getElem?_getD]
    rw [List.getElem?_set_ne (Ne.symm e)]
   rw [g]
   by_cases f:j < n
   ·rw [if_pos f,if_pos f] at ih
    rw [if_pos (by omega),if_pos (by omega)]
    omega
   ·rw [if_neg f,if_neg f] at ih
    rw [if_neg (by omega),if_neg (by omega)]
    omega
theorem quw:∀ a,a < 127 → ∀ b,b < 127 → endL a = endL b → a = b :=by decide +kernel
def lnW:List UInt8 → List Nat → List UInt8
 |w,[] => w
 |w,n :: r => lnW (w ++ ([32] ++ dec n)) r
theorem qmi:∀ (l r:List Nat) (w:List UInt8),lnW w (l ++ r) = lnW (lnW w l) r
 | [],_,_ => rfl
 | _ :: l,r,_ => qmi l r _
theorem qg3 (w:List UInt8) (l:List Nat) {i:Nat} (h:i < l.length):lnW w (l.take (i + 1)) = lnW w (l.take i) ++ ([32] ++ dec (gn l i)) :=by
 rw [qlk l h,qmi];rfl
theorem qsj:∀ n,n < 1000 → ∀ x,x ∈ dec n → 48 ≤ x.toNat ∧ x.toNat ≤ 57 :=by decide +kernel
theorem qsh {n:Nat} (h:n < 1000) {c:UInt8} (hc:c = 10 ∨ c = 32):∀ b,b ∈ dec n → b ≠ c :=fun b hb e => by
 have :=qsj n h b hb
 rw [e] at this
 rcases hc with rfl | rfl
 ·exact absurd this.1 (by decide)
 ·exact absurd this.1 (by decide)
def valD (l:List UInt8):Nat :=l.foldl (fun n b => 10 * n + (b.toNat - 48)) 0
theorem qd0:∀ n,n < 1000 → valD (dec n) = n :=by decide +kernel
theorem qde {a b:Nat} (ha:a < 1000) (hb:b < 1000) (e:dec a = dec b):a = b :=by
 rw [← qd0 a ha,← qd0 b hb,e]
theorem qnz:∀ (l:List Nat) (w:List UInt8),(∀ n,n ∈ l → n < 1000) → (∀ x,x ∈ w → x ≠ 10) → ∀ x,x ∈ lnW w l → x ≠ 10
 | [],_,_,hw => hw
 |n :: r,w,h,hw => qnz r _ (fun m hm => h m (List.mem_cons_of_mem _ hm)) (qhr hw (qhr (by decide) (qsh (h n (List.mem_cons_self ..)) (.inl rfl))))
theorem qlo (c:UInt8) (v:List UInt8) (hv:∀ b,b ∈ v → b ≠ c):∀ u,spl c (u ++ c :: v) = spl c u ++ [v]
 | [] => by
  show spl c (c :: v) = [[]] ++ [v]
  rw [show spl c (c :: v) = [] :: spl c v from if_pos rfl,qqd c v hv];rfl
 |b :: r => by
  have ih :=qlo c v hv r
  rw [List.cons_append,spl,spl]
  by_cases e:b = c
  ·rw [if_pos e,if_pos e,ih];rfl
  ·rw [if_neg e,if_neg e,ih]
   cases f:spl c r with
   |nil => exact absurd f (qes c r)
   |cons x t => rfl
theorem qj0:∀ (l:List Nat) (w:List UInt8),(∀ n,n ∈ l → n < 1000) → spl 32 (lnW w l) = spl 32 w ++ l.map dec
 | [],w,_ => by rw [lnW,List.map_nil,List.append_nil]
 |n :: r,w,h => by
  rw [lnW,qj0 r _ fun m hm => h m (List.mem_cons_of_mem _ hm)]
  have k :=qlo 32 (dec n) (qsh (h n (List.mem_cons_self ..)) (.inr rfl)) w
  rw [show w ++ ([32] ++ dec n) = w ++ 32 :: dec n from rfl,k,List.append_assoc]
  rfl
def qhc:List UInt8 :=[114,117,108,101]
def qbv:List UInt8 :=[110,101,118,101,114]
def qci:List UInt8 :=[116,114,97,105,110]
def qcb (s:Nat):List UInt8 :=if s = 1 then [97,110,121] else if s = 2 then [115,97,109,101] else [111,116,104,101,114]
theorem qki (s:Nat) {c:UInt8} (hc:c = 10 ∨ c = 32):∀ x,x ∈ qcb s → x ≠ c :=by
 unfold qcb
 rcases hc with rfl | rfl
 ·split
  ·decide
  ·split <;> decide
 ·split
  ·decide
  ·split <;> decide
theorem qf4 {a b:Nat} (ha:1 ≤ a ∧ a ≤ 3) (hb:1 ≤ b ∧ b ≤ 3) (e:qcb a = qcb b):a = b :=by
 have h1:a = 1 ∨ a = 2 ∨ a = 3 :=by omega
 have h2:b = 1 ∨ b = 2 ∨ b = 3 :=by omega
 rcases h1 with rfl|rfl|rfl <;> rcases h2 with rfl|rfl|rfl <;> first|rfl|exact absurd e (by decide)
abbrev TrR :=Nat × Nat × Nat × Nat
def lnR (r:TrR):List UInt8 :=lnW qhc [r.1,r.2.1,r.2.2.1] ++ ([32] ++ qcb r.2.2.2)
def flN:List (Nat × Nat) → List Nat
 | [] => []
 |p :: r => p.1 :: p.2 :: flN r
def lnT (t:List (Nat × Nat)):List UInt8 :=lnW qci (flN t)
def lnsT (r:TrR) (V:List Nat) (T:List (List (Nat × Nat))):List (List UInt8) :=lnR r :: lnW qbv V :: T.map lnT
def prtT (r:TrR) (V:List Nat) (T:List (List (Nat × Nat))):List UInt8 :=finB (ouB (lnsT r V T) (lnsT r V T).length) (ckN (lnsT r V T) (lnsT r V T).length % 109)
def okR (r:TrR) (V:List Nat) (T:List (List (Nat × Nat))):Prop :=((r.1 < 1000 ∧ r.2.1 < 1000 ∧ r.2.2.1 < 1000) ∧ 1 ≤ r.2.2.2 ∧ r.2.2.2 ≤ 3) ∧ (∀ n,n ∈ V → n < 1000) ∧ ∀ t,t ∈ T → ∀ n,n ∈ flN t → n < 1000
theorem qtw {r:TrR} (h:r.1 < 1000 ∧ r.2.1 < 1000 ∧ r.2.2.1 < 1000):∀ n,n ∈ [r.1,r.2.1,r.2.2.1] → n < 1000 :=by
 intro n hn
 simp only [List.mem_cons,List.not_mem_nil,or_false] at hn
 rcases hn with rfl | rfl | rfl
 ·exact h.1
 ·exact h.2.1
 ·exact h.2.2
theorem qxd {r:TrR} {V:List Nat} {T:List (List (Nat × Nat))} (h:okR r V T):∀ w,w ∈ lnsT r V T → ∀ b,b ∈ w → b ≠ 10 :=by
 intro w hw
 rcases List.mem_cons.1 hw with rfl | hw
 ·exact qhr (qnz _ _ (qtw h.1.1) (by decide)) (qhr (by decide) (qki _ (.inl rfl)))
 ·rcases List.mem_cons.1 hw with rfl | hw
  ·exact qnz _ _ h.2.1 (by decide)
  ·obtain ⟨t,ht,rfl⟩ :=List.mem_map.1 hw
   exact qnz _ _ (h.2.2 t ht) (by decide)
theorem qfv {r:TrR} {V:List Nat} {T:List (List (Nat × Nat))} (h:okR r V T):spl 10 (prtT r V T) = lnsT r V T ++ [endL (ckN (lnsT r V T) (lnsT r V T).length % 109),[]] :=by
 unfold prtT
 rw [qvy,qyl (qxd h) _ _ (Nat.le_refl _),List.take_length]
 have k :=qnb 10 [] (endL (ckN (lnsT r V T) (lnsT r V T).length % 109)) (qxs (by omega))
 rw [k]
 rfl
theorem qfp {r:TrR} (h:r.1 < 1000 ∧ r.2.1 < 1000 ∧ r.2.2.1 < 1000):spl 32 (lnR r) = [qhc,dec r.1,dec r.2.1,dec r.2.2.1,qcb r.2.2.2] :=by
 unfold lnR
 have k :=qlo 32 (qcb r.2.2.2) (qki _ (.inr rfl)) (lnW qhc [r.1,r.2.1,r.2.2.1])
 rw [qj0 _ _ (qtw h)] at k
 exact k
theorem qfo {V:List Nat} (h:∀ n,n ∈ V → n < 1000):spl 32 (lnW qbv V) = qbv :: V.map dec :=by
 rw [qj0 _ _ h];rfl
theorem qgc {t:List (Nat × Nat)} (h:∀ n,n ∈ flN t → n < 1000):spl 32 (lnT t) = qci :: (flN t).map dec :=by
 unfold lnT
 rw [qj0 _ _ h];rfl
theorem qce:∀ {l l':List Nat},(∀ n,n ∈ l → n < 1000) → (∀ n,n ∈ l' → n < 1000) → l.map dec = l'.map dec → l = l'
 | [],[],_,_,_ => rfl
 | [],_ :: _,_,_,h => nomatch h
 | _ :: _,[],_,_,h => nomatch h
 |x :: l,y :: l',h1,h2,h => by
  have a:dec x = dec y :=(List.cons.inj h).1
  have b:l.map dec = l'.map dec :=(List.cons.inj h).2
  rw [qde (h1 x (List.mem_cons_self ..)) (h2 y (List.mem_cons_self ..)) a,qce (fun n hn => h1 n (List.mem_cons_of_mem _ hn)) (fun n hn => h2 n (List.mem_cons_of_mem _ hn)) b]
theorem qj6:∀ {s t:List (Nat × Nat)},flN s = flN t → s = t
 | [],[],_ => rfl
 | [],_ :: _,h => nomatch h
 | _ :: _,[],h => nomatch h
 |p :: s,q :: t,h => by
  have a:p.1 = q.1 :=(List.cons.inj h).1
  have h2 :=(List.cons.inj h).2
  have b:p.2 = q.2 :=(List.cons.inj h2).1
  have c:flN s = flN t :=(List.cons.inj h2).2
  rw [qj6 c,show p = q from Prod.ext a b]
theorem qub {r r':TrR} {V V':List Nat} {T T':List (List (Nat × Nat))} (h:okR r V T) (h':okR r' V' T') (e:lnsT r V T = lnsT r' V' T'):r = r' ∧ V = V' ∧ T = T' :=by
 have e1:lnR r = lnR r' :=(List.cons.inj e).1
 have e2 :=(List.cons.inj e).2
 have e3:lnW qbv V = lnW qbv V' :=(List.cons.inj e2).1
 have e4:T.map lnT = T'.map lnT :=(List.cons.inj e2).2
 refine ⟨?_,?_,?_⟩
 ·have k :=congrArg (spl 32) e1
  rw [qfp h.1.1,qfp h'.1.1] at k
  simp only [List.cons.injEq,and_true,true_and] at k
  have a :=qde h.1.1.1 h'.1.1.1 k.1
  have b :=qde h.1.1.2.1 h'.1.1.2.1 k.2.1
  have c :=qde h.1.1.2.2 h'.1.1.2.2 k.2.2.1
  have d :=qf4 h.1.2 h'.1.2 k.2.2.2
  exact Prod.ext a (Prod.ext b (Prod.ext c d))
 ·have k :=congrArg (spl 32) e3
  rw [qfo h.2.1,qfo h'.2.1] at k
  exact qce h.2.1 h'.2.1 (List.cons.inj k).2
 ·have key:∀ (A B:List (List (Nat × Nat))),(∀ t,t ∈ A → ∀ n,n ∈ flN t → n < 1000) → (∀ t,t ∈ B → ∀ n,n ∈ flN t → n < 1000) → A.map lnT = B.map lnT → A = B :=by
   intro A
   induction A with
   |nil =>
    intro B _ _ q
    cases B with
    |nil => rfl
    |cons y B => cases q
   |cons x A ih =>
    intro B ha hb q
    cases B with
    |nil => cases q
    |cons y B =>
     have q1:lnT x = lnT y :=(List.cons.inj q).1
     have q2:A.map lnT = B.map lnT :=(List.cons.inj q).2
     have k :=congrArg (spl 32) q1
     rw [qgc (ha x (List.mem_cons_self ..)),qgc (hb y (List.mem_cons_self ..))] at k
     have k2 :=qj6 (qce (ha x (List.mem_cons_self ..)) (hb y (List.mem_cons_self ..)) (List.cons.inj k).2)
     rw [k2,ih B (fun t ht => ha t (List.mem_cons_of_mem _ ht)) (fun t ht => hb t (List.mem_cons_of_mem _ ht)) q2]
  exact key T T' h.2.2 h'.2.2 e4
theorem qni {r r':TrR} {V V':List Nat} {T T':List (List (Nat × Nat))} (h:okR r V T) (h':okR r' V' T') (e:prtT r V T = prtT r' V' T'):r = r' ∧ V = V' ∧ T = T' :=by
 have k :=congrArg (spl 10) e
 rw [qfv h,qfv h'] at k
 have hl:(lnsT r V T).length = (lnsT r' V' T').length :=by
  have :=congrArg List.length k
  rw [List.length_append,List.length_append] at this
  exact Nat.add_right_cancel this
 exact qub h h' (List.append_inj k hl).1
theorem qtz:∀ a,a < 9 → ∀ b,b < 60 → ∀ c,c < 12 → (a + 1) * (b + 1) * (c + 1) % 109 ≠ 0 :=by decide +kernel
def isU (s:List UInt8) (r:TrR) (V:List Nat) (T:List (List (Nat × Nat))):Prop :=okR r V T ∧ prtT r V T = s
theorem qot {r:TrR} {V:List Nat} {T:List (List (Nat × Nat))} (h:okR r V T) (hw:∀ j,(gB (lnsT r V T) j).length ≤ 60) (hl:(lnsT r V T).length ≤ 12) {i:Nat} {d:UInt8} (hi:i < (prtT r V T).length) (h1:48 ≤ ((prtT r V T).getD i 0).toNat) (h2:((prtT r V T).getD i 0).toNat ≤ 57) (d1:48 ≤ d.toNat) (d2:d.toNat ≤ 57) (hne:(prtT r V T).getD i 0 ≠ d):¬ ∃ r' V' T',isU ((prtT r V T).set i d) r' V' T' :=by
 rintro ⟨r',V',T',o,e⟩
 have n10:∀ x:UInt8,48 ≤ x.toNat → x ≠ 10 :=fun x hx z => by rw [z] at hx;exact absurd hx (by decide)
 obtain ⟨j,k,j1,k1,g1,q⟩ :=qqc 10 d (n10 d d1) (prtT r V T) i hi (n10 _ h1)
 rw [← e,qfv o] at q
 rw [qfv h] at q j1 k1 g1
 obtain ⟨A,eA⟩ : ∃ A,A = lnsT r V T :=⟨_,rfl⟩
 obtain ⟨A',eA'⟩ : ∃ A,A = lnsT r' V' T' :=⟨_,rfl⟩
 rw [← eA] at q j1 k1 g1 hl
 rw [← eA'] at q
 have hlen:A'.length = A.length :=by
  have :=congrArg List.length q
  rw [List.length_append,List.length_set,List.length_append] at this
  simpa using this
 rw [List.length_append] at j1
 have j1:j < A.length + 2 :=j1
 by_cases c1:j < A.length
 ·have g2:gB (A ++ [endL (ckN A A.length % 109),[]]) j = gB A j :=qiy c1
  rw [g2] at k1 g1 q
  rw [List.set_append_left _ _ c1] at q
  have q2 :=List.append_inj q (by rw [List.length_set];exact hlen)
  obtain ⟨q3,q4⟩ :=q2
  have q5:endL (ckN A' A'.length % 109) = endL (ckN A A.length % 109) :=(List.cons.inj q4).1
  have q6 :=quw _ (by omega) _ (by omega) q5
  have q7 :=qsn (d :=d) c1 k1 A.length (Nat.le_refl _)
  rw [if_pos c1,if_pos c1,← q3,g1] at q7
  rw [hlen] at q6
  have kl:(gB A j).length ≤ 60 :=by rw [eA];exact hw j
  have hdn:((prtT r V T).getD i 0).toNat ≠ d.toNat :=fun z => hne (UInt8.toNat_inj.1 z)
  have key:∀ x y:Nat,48 ≤ x → x < y → y ≤ 57 → ∀ p u:Nat,p % 109 = u % 109 → p + x * (k + 1) * (j + 1) = u + y * (k + 1) * (j + 1) → False :=fun x y x1 x2 x3 p u pr hp => by
   have t1 :=qtz (y - x - 1) (by omega) k (by omega) j (by omega)
   rw [show y - x - 1 + 1 = y - x by omega] at t1
   have t2:y * (k + 1) * (j + 1) = x * (k + 1) * (j + 1) + (y - x) * (k + 1) * (j + 1) :=by
    rw [← Nat.add_mul,← Nat.add_mul]
    congr 2
    omega
   omega
  rcases Nat.lt_or_gt_of_ne hdn with z | z
  ·exact key _ _ h1 z d2 _ _ q6 q7
  ·exact key _ _ d1 z h2 _ _ q6.symm q7.symm
 ·have q0:A' = A ∧ [endL (ckN A' A'.length % 109),[]] = [endL (ckN A A.length % 109),[]].set (j - A.length) ((gB (A ++ [endL (ckN A A.length % 109),[]]) j).set k d) :=by
   rw [List.set_append_right _ _ (by omega)] at q
   exact List.append_inj q hlen
  obtain ⟨q1,q2⟩ :=q0
  rw [q1] at q2
  by_cases c2:j = A.length
  ·subst c2
   have g2:gB (A ++ [endL (ckN A A.length % 109),[]]) A.length = endL (ckN A A.length % 109) :=by
    simp [gB,List.getD]
   rw [g2] at q2 k1 g1
   rw [Nat.sub_self] at q2
   have q3:endL (ckN A A.length % 109) = (endL (ckN A A.length % 109)).set k d :=(List.cons.inj q2).1
   have q4:(endL (ckN A A.length % 109)).getD k 0 = ((endL (ckN A A.length % 109)).set k d).getD k 0 :=congrArg (fun z:List UInt8 => z.getD k 0) q3
   rw [g1] at q4
   have q5:((endL (ckN A A.length % 109)).set k d).getD k 0 = d :=by simp [List.getD,k1]
   rw [q5] at q4
   exact hne q4
  ·have e1:j = A.length + 1 :=by omega
   subst e1
   have g2:gB (A ++ [endL (ckN A A.length % 109),[]]) (A.length + 1) = [] :=by
    simp [gB,List.getD]
   rw [g2] at k1
   exact absurd k1 (Nat.not_lt_zero _)
theorem qd9:∀ (l:List Nat) (w:List UInt8),(lnW w l).length ≤ w.length + 4 * l.length
 | [],_ => Nat.le_refl _
 |n :: r,w => by
  have k :=qd9 r (w ++ ([32] ++ dec n))
  have s :=qey n
  rw [List.length_append] at k
  rw [lnW,List.length_cons]
  omega
theorem qaq:∀ t:List (Nat × Nat),(flN t).length = 2 * t.length
 | [] => rfl
 |p :: r => by
  have :=qaq r
  show (flN r).length + 1 + 1 = 2 * (r.length + 1)
  omega
theorem qj1 (r:TrR):(lnR r).length ≤ 22 :=by
 have k :=qd9 [r.1,r.2.1,r.2.2.1] qhc
 have s:(qcb r.2.2.2).length ≤ 5 :=by
  unfold qcb
  split
  ·decide
  ·split <;> decide
 have e:qhc.length + 4 * [r.1,r.2.1,r.2.2.1].length = 16 :=rfl
 unfold lnR
 rw [List.length_append,List.length_append]
 show _ + (1 + _) ≤ 22
 omega
def shT (V:List Nat) (T:List (List (Nat × Nat))):Prop :=V.length ≤ 10 ∧ T.length ≤ 8 ∧ ∀ t,t ∈ T → t.length ≤ 6
theorem qxe {r:TrR} {V:List Nat} {T:List (List (Nat × Nat))} (h:shT V T):∀ w,w ∈ lnsT r V T → w.length ≤ 53 :=by
 intro w hw
 rcases List.mem_cons.1 hw with rfl | hw
 ·exact Nat.le_trans (qj1 r) (by decide)
 ·rcases List.mem_cons.1 hw with rfl | hw
  ·have k :=qd9 V qbv
   have e:qbv.length = 5 :=rfl
   have :=h.1
   omega
  ·obtain ⟨t,ht,rfl⟩ :=List.mem_map.1 hw
   have k :=qd9 (flN t) qci
   have e:qci.length = 5 :=rfl
   have :=h.2.2 t ht
   rw [qaq] at k
   unfold lnT
   omega
theorem qyy {r:TrR} {V:List Nat} {T:List (List (Nat × Nat))} (h:shT V T) (j:Nat):(gB (lnsT r V T) j).length ≤ 53 :=by
 by_cases k:j < (lnsT r V T).length
 ·have e:gB (lnsT r V T) j = (lnsT r V T)[j] :=by simp [gB,List.getD,k]
  rw [e]
  exact qxe h _ (List.getElem_mem k)
 ·have e:gB (lnsT r V T) j = [] :=by simp [gB,List.getD,k]
  rw [e];exact Nat.zero_le _
theorem qcf (r:TrR) (V:List Nat) (T:List (List (Nat × Nat))):(lnsT r V T).length = T.length + 2 :=by
 unfold lnsT
 rw [List.length_cons,List.length_cons,List.length_map]
theorem qnx {r:TrR} {V:List Nat} {T:List (List (Nat × Nat))} (hV:V.length ≤ 6) (hT:∀ t,t ∈ T → t.length ≤ 3):∀ i,(ouB (lnsT r V T) i).length ≤ i * 30
 | 0 => Nat.le_refl _
 |i + 1 => by
  have k :=qnx (r :=r) hV hT i
  have g:(gB (lnsT r V T) i).length ≤ 29 :=by
   by_cases q:i < (lnsT r V T).length
   ·have e:gB (lnsT r V T) i = (lnsT r V T)[i] :=by simp [gB,List.getD,q]
    rw [e]
    have hw :=List.getElem_mem q
    generalize (lnsT r V T)[i] = w at hw
    rcases List.mem_cons.1 hw with rfl | hw
    ·exact Nat.le_trans (qj1 r) (by decide)
    ·rcases List.mem_cons.1 hw with rfl | hw
     ·have k :=qd9 V qbv
      have e:qbv.length = 5 :=rfl
      omega
     ·obtain ⟨t,ht,rfl⟩ :=List.mem_map.1 hw
      have k :=qd9 (flN t) qci
      have e:qci.length = 5 :=rfl
      have :=hT t ht
      rw [qaq] at k
      unfold lnT
      omega
   ·have e:gB (lnsT r V T) i = [] :=by simp [gB,List.getD,q]
    rw [e];exact Nat.zero_le _
  rw [ouB,List.length_append,List.length_append]
  show _ + (_ + 1) ≤ (i + 1) * 30
  omega
theorem quv (c:Nat):(endL c).length ≤ 13 :=by
 have d1 :=qbb (c / 100)
 have d2 :=qbb (c / 10 % 10)
 have d3 :=qbb (c % 10)
 unfold endL
 rw [List.length_append,List.length_append,List.length_append]
 show 4 + (_ + (_ + _)) ≤ 13
 omega
theorem qwx {r:TrR} {V:List Nat} {T:List (List (Nat × Nat))} (hV:V.length ≤ 6) (hT:∀ t,t ∈ T → t.length ≤ 3) (hl:T.length ≤ 4):(prtT r V T).length ≤ 400 :=by
 have k :=qnx (r :=r) hV hT (lnsT r V T).length
 have k2 :=qcf r V T
 have k3 :=quv (ckN (lnsT r V T) (lnsT r V T).length % 109)
 have k4:(lnsT r V T).length * 30 ≤ 6 * 30 :=Nat.mul_le_mul_right 30 (by omega)
 unfold prtT
 rw [qvy,List.length_append,List.length_append]
 show _ + (_ + 1) ≤ 400
 omega
theorem qs4 (l:List UInt8) (b:UInt8):valD (l ++ [b]) = 10 * valD l + (b.toNat - 48) :=by
 unfold valD
 rw [List.foldl_append];rfl
theorem qkk (w:List UInt8) {i:Nat} (h:i < w.length):valD (w.take (i + 1)) = 10 * valD (w.take i) + ((w.getD i 0).toNat - 48) :=by
 have e:w.getD i 0 = w[i] :=by simp [List.getD,h]
 rw [List.take_succ_eq_append_getElem h,qs4,e]
def digB (b:UInt8):Prop :=48 ≤ b.toNat ∧ b.toNat ≤ 57
theorem qlg {w:List UInt8} (h:∀ b,b ∈ w → digB b):w.length ≤ 3 → valD w < 1000 :=by
 intro hl
 rcases w with _ | ⟨a,_ | ⟨b,_ | ⟨c,_ | ⟨d,w⟩⟩⟩⟩
 ·exact Nat.succ_pos _
 ·have :=h a (by simp)
  show 10 * 0 + (a.toNat - 48) < 1000
  unfold digB at this
  omega
 ·have h1 :=h a (by simp)
  have h2 :=h b (by simp)
  show 10 * (10 * 0 + (a.toNat - 48)) + (b.toNat - 48) < 1000
  unfold digB at h1 h2
  omega
 ·have h1 :=h a (by simp)
  have h2 :=h b (by simp)
  have h3 :=h c (by simp)
  show 10 * (10 * (10 * 0 + (a.toNat - 48)) + (b.toNat - 48)) + (c.toNat - 48) < 1000
  unfold digB at h1 h2 h3
  omega
 ·simp only [List.length_cons] at hl;omega
theorem qxx (n:Nat):dec n ≠ [] :=by
 unfold dec
 split
 ·exact fun h => nomatch h
 ·split <;> exact fun h => nomatch h
theorem qxg {w:List UInt8}:(∃ n,n < 1000 ∧ w = dec n) ↔ (∀ b,b ∈ w → digB b) ∧ w.length ≤ 3 ∧ w ≠ [] ∧ dec (valD w) = w :=by
 constructor
 ·rintro ⟨n,hn,rfl⟩
  exact ⟨qsj n hn,qbb n,qxx n,by rw [qd0 n hn]⟩
 ·rintro ⟨h1,h2,_,h4⟩
  exact ⟨valD w,qlg h1 h2,h4.symm⟩
def prs:List Nat → List (Nat × Nat)
 |a :: b :: r => (a,b) :: prs r
 | _ => []
theorem qmp:∀ l:List Nat,l.length % 2 = 0 → flN (prs l) = l
 | [],_ => rfl
 | [_],h => absurd h (by show ¬ 1 % 2 = 0;decide)
 |a :: b :: r,h => by
  have h2:r.length % 2 = 0 :=by
   simp only [List.length_cons] at h
   omega
  show a :: b :: flN (prs r) = _
  rw [qmp r h2]
theorem qbi:∀ t,prs (flN t) = t
 | [] => rfl
 |p :: r => by
  show (p.1,p.2) :: prs (flN r) = p :: r
  rw [qbi r]
abbrev gT (T:List (List (Nat × Nat))) (i:Nat):List (Nat × Nat) :=T.getD i []
theorem qgo {T:List (List (Nat × Nat))} {i:Nat} (h:i < T.length):gT T i ∈ T :=by
 have e:gT T i = T[i] :=by simp [gT,List.getD,h]
 rw [e];exact List.getElem_mem h
structure TxT (s:List UInt8) (r:TrR) (V:List Nat) (T:List (List (Nat × Nat))):Prop where
 ok:okR r V T
 len:(spl 10 s).length = T.length + 4
 l0:gB (spl 10 s) 0 = lnR r
 l1:gB (spl 10 s) 1 = lnW qbv V
 lT:∀ i,i < T.length → gB (spl 10 s) (i + 2) = lnT (gT T i)
theorem qdi {s:List UInt8} {r:TrR} {V:List Nat} {T:List (List (Nat × Nat))} (h:isU s r V T):TxT s r V T :=by
 have k :=qfv h.1
 rw [h.2] at k
 have hl :=qcf r V T
 refine ⟨h.1,?_,?_,?_,fun i hi => ?_⟩
 ·rw [k,List.length_append,hl];rfl
 ·rw [k,qiy (by omega)];rfl
 ·rw [k,qiy (by omega)];rfl
 ·rw [k,qiy (by omega)]
  show gB (T.map lnT) i = _
  simp [gB,gT,List.getD,hi]
theorem qs9 {s:List UInt8} {r r':TrR} {V V':List Nat} {T T':List (List (Nat × Nat))} (h:TxT s r' V' T') (o:okR r V T) (h0:spl 32 (gB (spl 10 s) 0) = [qhc,dec r.1,dec r.2.1,dec r.2.2.1,qcb r.2.2.2]) (h1:spl 32 (gB (spl 10 s) 1) = qbv :: V.map dec) (hl:(spl 10 s).length = T.length + 4) (hT:∀ i,i < T.length → spl 32 (gB (spl 10 s) (i + 2)) = qci :: (flN (gT T i)).map dec):r = r' ∧ V = V' ∧ T = T' :=by
 refine ⟨?_,?_,?_⟩
 ·rw [h.l0,qfp h.ok.1.1] at h0
  simp only [List.cons.injEq,and_true,true_and] at h0
  have a :=qde o.1.1.1 h.ok.1.1.1 h0.1.symm
  have b :=qde o.1.1.2.1 h.ok.1.1.2.1 h0.2.1.symm
  have c :=qde o.1.1.2.2 h.ok.1.1.2.2 h0.2.2.1.symm
  have d :=qf4 o.1.2 h.ok.1.2 h0.2.2.2.symm
  exact Prod.ext a (Prod.ext b (Prod.ext c d))
 ·rw [h.l1,qfo h.ok.2.1] at h1
  exact qce o.2.1 h.ok.2.1 (List.cons.inj h1).2.symm
 ·have e:T.length = T'.length :=by have :=h.len;omega
  refine List.ext_getElem e fun i a b => ?_
  have k :=hT i a
  rw [h.lT i b,qgc (h.ok.2.2 _ (qgo b))] at k
  have q :=qj6 (qce (o.2.2 _ (qgo a)) (h.ok.2.2 _ (qgo b)) (List.cons.inj k).2.symm)
  have g1:gT T i = T[i] :=by simp [gT,List.getD,a]
  have g2:gT T' i = T'[i] :=by simp [gT,List.getD,b]
  rw [← g1,← g2,q]
end
end Go.Abs.Seat
namespace Go.Abs.Seat
noncomputable section
open Go Go.Abs Go.Proofs.Tryz
set_option maxRecDepth 100000
set_option maxHeartbeats 40000000
attribute [local irreducible] IntKind.wrap pEq qbt
theorem u8w:∀ n,n < 256 → IntKind.u8.wrap (Int.ofNat n) = Int.ofNat n :=by decide +kernel
theorem qv9 {α:Type} {p:α → Bool}:∀ (s:List α) (k:Nat),s.all p = true → k < s.length → ∃ b,s[k]? = some b ∧ p b = true
 | [],_,_,h => absurd h (Nat.not_lt_zero _)
 |b :: _,0,h,_ => ⟨b,rfl,by simp at h;exact h.1⟩
 | _ :: r,k + 1,h,hk => by
  obtain ⟨b,e,q⟩ :=qv9 r k (by simp at h;simpa using h.2) (Nat.lt_of_succ_lt_succ hk)
  exact ⟨b,by simpa using e,q⟩
theorem qg7 {s:List UInt8} {x:Int} {k a m:Nat} {b:UInt8} (hx:x = Int.ofNat k) (ha:a ≤ k) (hm:k < a + m) (hc:(((s.drop a).take m).all fun c => c == b) = true) (hl:Nat.ble (a + m) s.length = true):(match nthB s x.toNat with | some b => Plan.ret (.int .u8 b.toNat) | none => Plan.fail) = Plan.ret (.int .u8 b.toNat) :=by
 subst hx
 have hl :=Nat.le_of_ble_eq_true hl
 obtain ⟨c,e,q⟩ :=qv9 ((s.drop a).take m) (k - a) hc (by rw [List.length_take,List.length_drop];omega)
 rw [List.getElem?_take_of_lt (by omega),List.getElem?_drop,show a + (k - a) = k by omega] at e
 have e2:nthB s (Int.ofNat k).toNat = some c :=by rw [qjx];exact e
 rw [e2,eq_of_beq q]
def lnV (n:Nat):Nat :=if n < 128 then 7 else if n < 256 then 8 else if n < 512 then 9 else 10
theorem qpj {n:Nat} (h1:100 ≤ n) (h:n < 1000):Pure prog 141 [.int .u64 (Int.ofNat n)] (nv (lnV n)) :=by
 have c1:decide (Int.ofNat n ≥ 4294967296) = false :=decide_eq_false (by simp only [Int.ofNat_eq_natCast];omega)
 have c2:decide (Int.ofNat n ≥ 65536) = false :=decide_eq_false (by simp only [Int.ofNat_eq_natCast];omega)
 by_cases h2:n < 256
 ·have c3:decide (Int.ofNat n ≥ 256) = false :=decide_eq_false (by simp only [Int.ofNat_eq_natCast];omega)
  have w :=u8w n h2
  have i0:decide (0 ≤ IntKind.u8.wrap (Int.ofNat n)) = true :=decide_eq_true (by rw [w];exact Int.natCast_nonneg _)
  have i1:decide (IntKind.u8.wrap (Int.ofNat n) < 256) = true :=decide_eq_true (by rw [w];simp only [Int.ofNat_eq_natCast];omega)
  by_cases h3:n < 128
  ·refine qap hE rfl (by repeat' first|exact trivial|assumption|exact qal _|exact fun _ h => nomatch h|apply And.intro) (by repeat' first|exact trivial|assumption|exact qal _|exact fun _ h => nomatch h|apply And.intro) fun S q pc hS hq hC hE => ?_
   conv => whnf
   repeat ((first|refine qaf (qg7 (a :=100) (m :=28) (b :=7) w (by omega) (by omega) (by kernel_rfl) (by kernel_rfl)) ?_|refine qam c1 ?_|refine qan c1 ?_|refine pkF c1 ?_|refine qab c1 ?_|refine qam c2 ?_|refine qan c2 ?_|refine pkF c2 ?_|refine qab c2 ?_|refine qam c3 ?_|refine qan c3 ?_|refine pkF c3 ?_|refine qab c3 ?_|refine qah i0 ?_|refine qag i0 ?_|refine pkT i0 ?_|refine qaa i0 ?_|refine qah i1 ?_|refine qag i1 ?_|refine pkT i1 ?_|refine qaa i1 ?_|refine qac hS (by kernel_rfl) ?_);conv => whnf)
   exact ⟨_,rfl,wk_i (by rw [lnV,if_pos h3];kernel_rfl)⟩
  ·refine qap hE rfl (by repeat' first|exact trivial|assumption|exact qal _|exact fun _ h => nomatch h|apply And.intro) (by repeat' first|exact trivial|assumption|exact qal _|exact fun _ h => nomatch h|apply And.intro) fun S q pc hS hq hC hE => ?_
   conv => whnf
   repeat ((first|refine qaf (qg7 (a :=128) (m :=128) (b :=8) w (by omega) (by omega) (by kernel_rfl) (by kernel_rfl)) ?_|refine qam c1 ?_|refine qan c1 ?_|refine pkF c1 ?_|refine qab c1 ?_|refine qam c2 ?_|refine qan c2 ?_|refine pkF c2 ?_|refine qab c2 ?_|refine qam c3 ?_|refine qan c3 ?_|refine pkF c3 ?_|refine qab c3 ?_|refine qah i0 ?_|refine qag i0 ?_|refine pkT i0 ?_|refine qaa i0 ?_|refine qah i1 ?_|refine qag i1 ?_|refine pkT i1 ?_|refine qaa i1 ?_|refine qac hS (by kernel_rfl) ?_);conv => whnf)
   exact ⟨_,rfl,wk_i (by rw [lnV,if_neg h3,if_pos h2];kernel_rfl)⟩
 ·have c3:decide (Int.ofNat n ≥ 256) = true :=decide_eq_true (by simp only [Int.ofNat_eq_natCast];omega)
  have w:IntKind.u8.wrap ((Int.ofNat n).fdiv (2 ^ min (Int.toNat 8) IntKind.u64.bits)) = Int.ofNat (n / 256) :=by
   rw [show (2 ^ min (Int.toNat 8) IntKind.u64.bits:Int) = Int.ofNat 256 by decide]
   rw [show (Int.ofNat n).fdiv (Int.ofNat 256) = Int.ofNat (n / 256) from (Int.ofNat_fdiv n 256).symm]
   exact u8w (n / 256) (by omega)
  have i0:decide (0 ≤ IntKind.u8.wrap ((Int.ofNat n).fdiv (2 ^ min (Int.toNat 8) IntKind.u64.bits))) = true :=decide_eq_true (by rw [w];exact Int.natCast_nonneg _)
  have i1:decide (IntKind.u8.wrap ((Int.ofNat n).fdiv (2 ^ min (Int.toNat 8) IntKind.u64.bits)) < 256) = true :=decide_eq_true (by rw [w];simp only [Int.ofNat_eq_natCast];omega)
  by_cases h3:n < 512
  ·refine qap hE rfl (by repeat' first|exact trivial|assumption|exact qal _|exact fun _ h => nomatch h|apply And.intro) (by repeat' first|exact trivial|assumption|exact qal _|exact fun _ h => nomatch h|apply And.intro) fun S q pc hS hq hC hE => ?_
   conv => whnf
   repeat ((first|refine qaf (qg7 (a :=1) (m :=1) (b :=1) w (by omega) (by omega) (by kernel_rfl) (by kernel_rfl)) ?_|refine qam c1 ?_|refine qan c1 ?_|refine pkF c1 ?_|refine qab c1 ?_|refine qam c2 ?_|refine qan c2 ?_|refine pkF c2 ?_|refine qab c2 ?_|refine qah c3 ?_|refine qag c3 ?_|refine pkT c3 ?_|refine qaa c3 ?_|refine qah i0 ?_|refine qag i0 ?_|refine pkT i0 ?_|refine qaa i0 ?_|refine qah i1 ?_|refine qag i1 ?_|refine pkT i1 ?_|refine qaa i1 ?_|refine qac hS (by kernel_rfl) ?_);conv => whnf)
   exact ⟨_,rfl,wk_i (by rw [lnV,if_neg (by omega),if_neg h2,if_pos h3];kernel_rfl)⟩
  ·refine qap hE rfl (by repeat' first|exact trivial|assumption|exact qal _|exact fun _ h => nomatch h|apply And.intro) (by repeat' first|exact trivial|assumption|exact qal _|exact fun _ h => nomatch h|apply And.intro) fun S q pc hS hq hC hE => ?_
   conv => whnf
   repeat ((first|refine qaf (qg7 (a :=2) (m :=2) (b :=2) w (by omega) (by omega) (by kernel_rfl) (by kernel_rfl)) ?_|refine qam c1 ?_|refine qan c1 ?_|refine pkF c1 ?_|refine qab c1 ?_|refine qam c2 ?_|refine qan c2 ?_|refine pkF c2 ?_|refine qab c2 ?_|refine qah c3 ?_|refine qag c3 ?_|refine pkT c3 ?_|refine qaa c3 ?_|refine qah i0 ?_|refine qag i0 ?_|refine pkT i0 ?_|refine qaa i0 ?_|refine qah i1 ?_|refine qag i1 ?_|refine pkT i1 ?_|refine qaa i1 ?_|refine qac hS (by kernel_rfl) ?_);conv => whnf)
   exact ⟨_,rfl,wk_i (by rw [lnV,if_neg (by omega),if_neg h2,if_neg h3];kernel_rfl)⟩
theorem qyt {n:Nat} (h:n < 512):lnV n = 7 ∨ lnV n = 8 ∨ lnV n = 9 :=by
 unfold lnV
 rw [if_pos h]
 by_cases a:n < 128
 ·rw [if_pos a];exact .inl rfl
 ·rw [if_neg a]
  by_cases b:n < 256
  ·rw [if_pos b];exact .inr (.inl rfl)
  ·rw [if_neg b];exact .inr (.inr rfl)
theorem qx0:Pure prog 142 [.bool true] (iv 1) :=by
 refine qap hE rfl (by repeat' first|exact trivial|assumption|exact qal _|exact fun _ h => nomatch h|apply And.intro) (by repeat' first|exact trivial|assumption|exact qal _|exact fun _ h => nomatch h|apply And.intro) fun S q pc hS hq hC hE => ?_
 conv => whnf
 exact ⟨_,rfl,Wk.refl _⟩
theorem qx1:Pure prog 142 [.bool false] (iv 0) :=by
 refine qap hE rfl (by repeat' first|exact trivial|assumption|exact qal _|exact fun _ h => nomatch h|apply And.intro) (by repeat' first|exact trivial|assumption|exact qal _|exact fun _ h => nomatch h|apply And.intro) fun S q pc hS hq hC hE => ?_
 conv => whnf
 exact ⟨_,rfl,Wk.refl _⟩
theorem qu1 {b:Bool} (h:b = true):Pure prog 142 [.bool b] (iv 1) :=by subst h;exact qx0
theorem qu2 {b:Bool} (h:b = false):Pure prog 142 [.bool b] (iv 0) :=by subst h;exact qx1
theorem qyr {m:Nat} (h:m = 7 ∨ m = 8 ∨ m = 9):Pure prog 140 [nv m] (iv 2) :=by
 rcases h with rfl | rfl | rfl
 all_goals
  refine qap hE rfl (by repeat' first|exact trivial|assumption|exact qal _|exact fun _ h => nomatch h|apply And.intro) (by repeat' first|exact trivial|assumption|exact qal _|exact fun _ h => nomatch h|apply And.intro) fun S q pc hS hq hC hE => ?_
  conv => whnf
  exact ⟨_,rfl,wk_i (by kernel_rfl)⟩
theorem qys:Pure prog 140 [nv 10] (iv 3) :=by
 refine qap hE rfl (by repeat' first|exact trivial|assumption|exact qal _|exact fun _ h => nomatch h|apply And.intro) (by repeat' first|exact trivial|assumption|exact qal _|exact fun _ h => nomatch h|apply And.intro) fun S q pc hS hq hC hE => ?_
 conv => whnf
 exact ⟨_,rfl,wk_i (by kernel_rfl)⟩
theorem qmu {n:Nat} (h1:100 ≤ n) (h:n < 1000):Pure prog 133 [.int .u64 (Int.ofNat n)] (iv 3) :=by
 have p1 :=qpj h1 h
 by_cases h3:n < 512
 ·have p2:Pure prog 140 [nv (lnV n)] (iv 2) :=qyr (qyt h3)
  have c1:decide (Int.ofNat n ≥ 100) = true :=decide_eq_true (by simp only [Int.ofNat_eq_natCast];omega)
  refine qap hE rfl (by repeat' first|exact trivial|assumption|exact qal _|exact fun _ h => nomatch h|apply And.intro) (by repeat' first|exact trivial|assumption|exact qal _|exact fun _ h => nomatch h|apply And.intro) fun S q pc hS hq hC hE => ?_
  conv => whnf
  repeat ((first|refine qad hC (p1) ?_|refine qad hC (p2) ?_|refine qad hC (qu1 c1) ?_|refine qac hS (by kernel_rfl) ?_);conv => whnf)
  exact ⟨_,rfl,wk_i (by kernel_rfl)⟩
 ·have p2:Pure prog 140 [nv (lnV n)] (iv 3) :=by rw [show lnV n = 10 by unfold lnV;rw [if_neg (by omega),if_neg (by omega),if_neg h3]];exact qys
  have c1:decide (Int.ofNat n ≥ 1000) = false :=decide_eq_false (by simp only [Int.ofNat_eq_natCast];omega)
  refine qap hE rfl (by repeat' first|exact trivial|assumption|exact qal _|exact fun _ h => nomatch h|apply And.intro) (by repeat' first|exact trivial|assumption|exact qal _|exact fun _ h => nomatch h|apply And.intro) fun S q pc hS hq hC hE => ?_
  conv => whnf
  repeat ((first|refine qad hC (p1) ?_|refine qad hC (p2) ?_|refine qad hC (qu2 c1) ?_|refine qac hS (by kernel_rfl) ?_);conv => whnf)
  exact ⟨_,rfl,wk_i (by kernel_rfl)⟩
theorem quz {n:Nat} {x:Int} (hx:x = Int.ofNat n) (h1:100 ≤ n) (h:n < 1000):Pure prog 133 [.int .u64 x] (iv 3) :=by subst hx;exact qmu h1 h
theorem u32a:∀ m,m < 1000 → IntKind.u32.wrap (IntKind.u32.wrap ((IntKind.u32.wrap (IntKind.u64.wrap (Int.ofNat m))).tmod 100 * 2) + 1) = Int.ofNat (m % 100 * 2 + 1) :=by decide +kernel
theorem u32b:∀ m,m < 1000 → IntKind.u32.wrap ((IntKind.u32.wrap (IntKind.u64.wrap (Int.ofNat m))).tmod 100 * 2) = Int.ofNat (m % 100 * 2) :=by decide +kernel
theorem qsp {s:List UInt8} {x:Int} {k:Nat} (hx:x = Int.ofNat k) (hl:k < s.length):(match nthB s x.toNat with | some b => Plan.ret (.int .u8 b.toNat) | none => Plan.fail) = Plan.ret (.int .u8 (s.getD k 0).toNat) :=by subst hx;exact qch hl
theorem dec3:∀ n,n < 1000 → ¬ n < 100 → [UInt8.ofNat (IntKind.u8.wrap (IntKind.u32.wrap (48 + IntKind.u32.wrap ((IntKind.u32.wrap (IntKind.u64.wrap (Int.ofNat n))).tdiv 100)))).toNat,UInt8.ofNat (((dg2.getD (n % 100 * 2) 0).toNat:Nat):Int).toNat,UInt8.ofNat (((dg2.getD (n % 100 * 2 + 1) 0).toNat:Nat):Int).toNat] = dec n :=by decide +kernel
theorem qrs {n:Nat} (h1:100 ≤ n) (h:n < 1000):Pure prog 125 [nv n,iv 10] (.str (dec n)) :=by
 have c1:decide (0 ≤ Int.ofNat n) = true :=decide_eq_true (Int.natCast_nonneg _)
 have c2:decide (Int.ofNat n < 100) = false :=decide_eq_false (by simp only [Int.ofNat_eq_natCast];omega)
 have c3:decide (Int.ofNat n < 0) = false :=decide_eq_false (by simp only [Int.ofNat_eq_natCast];omega)
 have u6:∀ m,m < 1000 → IntKind.u64.wrap (Int.ofNat m) = Int.ofNat m :=by decide +kernel
 have a1 :=u32a n h
 have a0 :=u32b n h
 have ia0:decide (0 ≤ IntKind.u32.wrap (IntKind.u32.wrap ((IntKind.u32.wrap (IntKind.u64.wrap (Int.ofNat n))).tmod 100 * 2) + 1)) = true :=decide_eq_true (by rw [a1];exact Int.natCast_nonneg _)
 have ia1:decide (IntKind.u32.wrap (IntKind.u32.wrap ((IntKind.u32.wrap (IntKind.u64.wrap (Int.ofNat n))).tmod 100 * 2) + 1) < 200) = true :=decide_eq_true (by rw [a1];simp only [Int.ofNat_eq_natCast];omega)
 have ib0:decide (0 ≤ IntKind.u32.wrap ((IntKind.u32.wrap (IntKind.u64.wrap (Int.ofNat n))).tmod 100 * 2)) = true :=decide_eq_true (by rw [a0];exact Int.natCast_nonneg _)
 have ib1:decide (IntKind.u32.wrap ((IntKind.u32.wrap (IntKind.u64.wrap (Int.ofNat n))).tmod 100 * 2) < 200) = true :=decide_eq_true (by rw [a0];simp only [Int.ofNat_eq_natCast];omega)
 have p1 :=quz (u6 n h) h1 h
 refine qap hE rfl (by repeat' first|exact trivial|assumption|exact qal _|exact fun _ h => nomatch h|apply And.intro) (by repeat' first|exact trivial|assumption|exact qal _|exact fun _ h => nomatch h|apply And.intro) fun S q pc hS hq hC hE => ?_
 conv => whnf
 repeat ((first|refine qah c1 ?_|refine qag c1 ?_|refine pkT c1 ?_|refine qaa c1 ?_|refine qam c2 ?_|refine qan c2 ?_|refine pkF c2 ?_|refine qab c2 ?_|refine qam (qb3 c2) ?_|refine qan (qb3 c2) ?_|refine pkF (qb3 c2) ?_|refine qab (qb3 c2) ?_|refine qam c3 ?_|refine qan c3 ?_|refine pkF c3 ?_|refine qab c3 ?_|refine qad hC (p1) ?_|refine qac hS (by kernel_rfl) ?_);conv => whnf)
 refine qaf (p' :=.ret (.slc 0 1 3 23)) (by kernel_rfl) ?_
 conv => whnf
 repeat ((first|refine qac hS (by kernel_rfl) ?_);conv => whnf)
 refine qa7 hC ?_
 conv => whnf
 refine qb0 hE hS ?_
 conv => whnf
 repeat ((first|refine qac hS (by kernel_rfl) ?_);conv => whnf)
 refine qao hE hS ?_
 conv => whnf
 repeat ((first|refine qaf (qsp a1 (Nat.lt_of_lt_of_le (show n % 100 * 2 + 1 < 200 by omega) (kle rfl))) ?_|refine qaf (qsp a0 (Nat.lt_of_lt_of_le (show n % 100 * 2 < 200 by omega) (kle rfl))) ?_|refine qah ia0 ?_|refine qag ia0 ?_|refine pkT ia0 ?_|refine qaa ia0 ?_|refine qah ia1 ?_|refine qag ia1 ?_|refine pkT ia1 ?_|refine qaa ia1 ?_|refine qah ib0 ?_|refine qag ib0 ?_|refine pkT ib0 ?_|refine qaa ib0 ?_|refine qah ib1 ?_|refine qag ib1 ?_|refine pkT ib1 ?_|refine qaa ib1 ?_|refine qac hS (by kernel_rfl) ?_);conv => whnf)
 with_unfolding_all (conv => whnf)
 repeat ((first|refine qac hS (by kernel_rfl) ?_);conv => whnf)
 with_unfolding_all (conv => whnf)
 exact ⟨_,rfl,wk_s (dec3 n h (Nat.not_lt.2 h1))⟩
theorem qb1 {n:Nat} (h:n < 1000):Pure prog 83 [nv n] (.str (dec n)) :=by
 by_cases h1:n < 100
 ·exact qrr h1
 ·have p1 :=qrs (Nat.not_lt.1 h1) h
  refine qap hE rfl (by repeat' first|exact trivial|assumption|exact qal _|exact fun _ h => nomatch h|apply And.intro) (by repeat' first|exact trivial|assumption|exact qal _|exact fun _ h => nomatch h|apply And.intro) fun S q pc hS hq hC hE => ?_
  conv => whnf
  refine qa7 hC ?_
  conv => whnf
  refine qb0 hE hS ?_
  conv => whnf
  repeat ((first|refine qad hC (p1) ?_|refine qac hS (by kernel_rfl) ?_);conv => whnf)
  exact ⟨_,rfl,Wk.refl _⟩
theorem qck {x:Int} {m:Nat} (hx:x = Int.ofNat m) (hm:m < 1000):Pure prog 83 [iv x] (.str (dec m)) :=by subst hx;exact qb1 hm
end
end Go.Abs.Seat
namespace Go.Abs.Seat
noncomputable section
open Go Go.Abs Go.Proofs.Tryz
set_option maxRecDepth 100000
set_option maxHeartbeats 40000000
attribute [local irreducible] pEq


end
end Go.Abs.Seat
namespace Go.Abs.Seat
open Go Go.Abs Go.Proofs.Tryz
set_option maxRecDepth 100000
set_option maxHeartbeats 40000000
attribute [local irreducible] IntKind.wrap pEq
def PQ (v:AV) (l:List (Int × Int)):Prop :=v = .nils ∧ l = [] ∨ v = pv l
theorem PQ.no {v:AV} {l:List (Int × Int)} (h:PQ v l):Live noL v :=by
 rcases h with ⟨rfl,_⟩ | rfl
 ·trivial
 ·exact qyh l
end Go.Abs.Seat
namespace Go.Abs.Seat
noncomputable section
open Go Go.Abs Go.Proofs.Tryz
set_option maxRecDepth 100000
set_option maxHeartbeats 40000000
attribute [local irreducible] pEq
theorem qmq (t:List (Nat × Nat)) (p:Nat × Nat):flN (t ++ [p]) = flN t ++ [p.1,p.2] :=by
 induction t with
 |nil => rfl
 |cons x r ih => show x.1 :: x.2 :: flN (r ++ [p]) = _;rw [ih];rfl
theorem qaz (t:List (Nat × Nat)) {i:Nat} (h:i < t.length):t.take (i + 1) = t.take i ++ [gq t i] :=by
 rw [List.take_succ_eq_append_getElem h]
 simp [gq,List.getD,h]
theorem qps (l:List Nat) (a b:Nat):ivs (zl (l ++ [a,b])) = ivs (zl l) ++ [nv a,nv b] :=by
 rw [show l ++ [a,b] = (l ++ [a]) ++ [b] by simp,qpt,qpt];simp
theorem qmg {v:AV} {l:List Int} (h:IL v l):Pure prog 171 [v] v :=by
 have lv :=h.no
 rcases h with ⟨rfl,_⟩ | rfl
 all_goals
  refine qap hE rfl (by repeat' first|exact trivial|assumption|exact qal _|exact fun _ h => nomatch h|apply And.intro) (by repeat' first|exact trivial|assumption|exact qal _|exact fun _ h => nomatch h|apply And.intro) fun S q pc hS hq hC hE => ?_
  conv => whnf
  exact ⟨_,rfl,Wk.refl _⟩
def flV (t:List (Nat × Nat)):AV :=if t = [] then .nils else nl (zl (flN t))
theorem qvx (t:List (Nat × Nat)):IL (flV t) (zl (flN t)) :=by
 unfold flV
 split
 ·rename_i e;exact .inl ⟨rfl,by rw [e];rfl⟩
 ·exact .inr rfl
theorem qrf {L L':List Nat} {k c:Nat} (h:k = L.length) (e:L = L'):Wk (.lst (ivs (zl L)) k (.ch c)) (nl (zl L')) :=by
 subst h e
 have e2:L.length = (zl L).length :=(qbe L).symm
 rw [e2]
 exact (WkV.own _ _ _).wk
theorem qud (t:List (Nat × Nat)) {i:Nat} (h:i ≤ t.length):qdq (ivs (zl (flN (t.take i)))) (i * 2 * 1) = true :=by
 have k :=qd3 (ivs (zl (flN (t.take i))))
 rw [ivs_len,qbe,qaq,List.length_take,Nat.min_eq_left h] at k
 rwa [Nat.mul_one,Nat.mul_comm]
theorem qli {v:AV} {t:List (Nat × Nat)} (h:PQ v (zp t)) (ht:t.length ≤ 1000):Pure prog 172 [v] (flV t) :=by
 have lv :=h.no
 have lR:Live noL (flV t) :=(qvx t).no
 rcases h with ⟨rfl,e⟩ | rfl
 ·have e2:t = [] :=List.map_eq_nil_iff.1 e
  have eR:flV t = .nils :=if_pos e2
  rw [eR]
  refine qap hE rfl (by repeat' first|exact trivial|assumption|exact qal _|exact fun _ h => nomatch h|apply And.intro) (by repeat' first|exact trivial|assumption|exact qal _|exact fun _ h => nomatch h|apply And.intro) fun S q pc hS hq hC hE => ?_
  conv => whnf
  refine qao hE hS ?_
  conv => whnf
  exact ⟨_,rfl,Wk.refl _⟩
 ·by_cases h1:1 ≤ t.length
  ·have eR:flV t = nl (zl (flN t)) :=if_neg fun z => by rw [z] at h1;exact absurd h1 (by decide)
   rw [eR]
   have hz:0 < (zp t).length :=by rw [qdy];exact h1
   have lF :=qa5 (zl (flN t))
   refine qap hE rfl (by repeat' first|exact trivial|assumption|exact qal _|exact fun _ h => nomatch h|apply And.intro) (by repeat' first|exact trivial|assumption|exact qal _|exact fun _ h => nomatch h|apply And.intro) fun S q pc hS hq hC hE => ?_
   conv => whnf
   refine qao hE hS ?_
   conv => whnf
   have e1:AV.lst [nv (gq t 0).1,nv (gq t 0).2] 2 (.ch 1) = .lst (ivs (zl (flN (t.take 1)))) (1 * 2) (.ch 1) :=by rw [qaz t h1,qmq,qps];rfl
   repeat ((first|refine qaf (takP (qm6 t h1)) ?_|refine qah (qae hz) ?_|refine qag (qae hz) ?_|refine pkT (qae hz) ?_|refine qaa (qae hz) ?_|refine qam (qae hz) ?_|refine qan (qae hz) ?_|refine pkF (qae hz) ?_|refine qab (qae hz) ?_|refine qah (qai hz) ?_|refine qag (qai hz) ?_|refine pkT (qai hz) ?_|refine qaa (qai hz) ?_|refine qac hS (by kernel_rfl) ?_);conv => whnf)
   refine qar hE hS (A :=Nat) [6,7] (fun i => [(3,.lst (ivs (zl (flN (t.take i)))) (i * 2) (.ch 1)),(8,nv i)]) (fun i => [(1,.chain (i * 2) 1 3)]) (fun _ => []) (fun i => 1 ≤ i ∧ i ≤ t.length) (fun i => t.length - i) 1 (kle rfl) rfl (by refine ⟨rfl,rfl,rfl,rfl,rfl,rfl,2,rfl,?_,?_⟩ <;> repeat' (first|exact trivial|exact rfl|exact wkr rfl|exact wko rfl|exact Nat.zero_le _|exact ⟨_,rfl,WkV.int (qav (m :=1) (by decide))⟩|exact ⟨_,rfl,WkV.eq e1⟩|exact qas (qa5 _) (by decide)|exact kle rfl|exact bdq|exact mxI rfl|exact mxS rfl|apply And.intro)) ⟨Nat.le_refl _,h1⟩ ?_
   intro i ⟨hi,hiN⟩ K hK
   obtain rfl:K = 2 :=hK
   conv => whnf
   by_cases hi2:i < t.length
   ·have hi1:IntKind.i64.wrap (Int.ofNat i + 1) = Int.ofNat (i + 1) :=qav (m :=i + 1) (by omega)
    have hz:i < (zp t).length :=by rw [qdy];exact hi2
    have d1:decide ((i * 2 + (1 + 1)) * 8 ≤ 140737488355328) = true :=decide_eq_true (by omega)
    have d2:decide (i * 2 + (1 + 1) ≤ 9223372036854775807) = true :=decide_eq_true (by omega)
    have d3:qdq (ivs (zl (flN (t.take i)))) (i * 2 * 1) = true :=qud t (by omega)
    have d4:decide (i * 2 = i * 2) = true :=decide_eq_true rfl
    have e2:AV.lst (ivs (zl (flN (t.take i))) ++ [nv (gq t i).1,nv (gq t i).2]) (i * 2 + (1 + 1)) (.ch 1) = .lst (ivs (zl (flN (t.take (i + 1))))) ((i + 1) * 2) (.ch 1) :=by rw [qaz t hi2,qmq,qps,Nat.succ_mul]
    have e3:AObj.chain (i * 2 + (1 + 1)) 1 3 = .chain ((i + 1) * 2) 1 3 :=by rw [Nat.succ_mul]
    repeat ((first|refine qaf (takP (qm6 t hi2)) ?_|refine qah (qae hz) ?_|refine qag (qae hz) ?_|refine pkT (qae hz) ?_|refine qaa (qae hz) ?_|refine qam (qae hz) ?_|refine qan (qae hz) ?_|refine pkF (qae hz) ?_|refine qab (qae hz) ?_|refine qah (qai hz) ?_|refine qag (qai hz) ?_|refine pkT (qai hz) ?_|refine qaa (qai hz) ?_|refine qah d1 ?_|refine qag d1 ?_|refine pkT d1 ?_|refine qaa d1 ?_|refine qah d2 ?_|refine qag d2 ?_|refine pkT d2 ?_|refine qaa d2 ?_|refine qah d3 ?_|refine qag d3 ?_|refine pkT d3 ?_|refine qaa d3 ?_|refine qah d4 ?_|refine qag d4 ?_|refine pkT d4 ?_|refine qaa d4 ?_|refine qac hS (by kernel_rfl) ?_);conv => whnf)
    exact ⟨i + 1,⟨by omega,hi2⟩,by omega,kle rfl,(by refine ⟨rfl,rfl,rfl,rfl,rfl,rfl,2,rfl,?_,?_⟩ <;> repeat' (first|exact trivial|exact rfl|exact wkr rfl|exact wko rfl|exact Nat.zero_le _|exact ⟨_,rfl,WkV.int hi1⟩|exact ⟨_,rfl,WkV.eq e2⟩|exact e3|exact qas (qa5 _) (by decide)|exact kle rfl|exact bdq|exact mxI rfl|exact mxS rfl|apply And.intro))⟩
   ·refine qab (qa9 (show ¬ i < (zp t).length by rw [qdy];exact hi2)) ?_
    conv => whnf
    refine .inl ?_
    conv => whnf
    exact ⟨_,rfl,qrf (by rw [qaq,List.length_take];omega) (by rw [show i = t.length by omega,List.take_length])⟩
  ·have e2:t = [] :=List.eq_nil_of_length_eq_zero (by omega)
   have eR:flV t = .nils :=if_pos e2
   rw [eR]
   subst e2
   refine qap hE rfl (by repeat' first|exact trivial|assumption|exact qal _|exact fun _ h => nomatch h|apply And.intro) (by repeat' first|exact trivial|assumption|exact qal _|exact fun _ h => nomatch h|apply And.intro) fun S q pc hS hq hC hE => ?_
   conv => whnf
   refine qao hE hS ?_
   conv => whnf
   exact ⟨_,rfl,Wk.refl _⟩
theorem qeu {L:List Nat} (h:∀ n,n ∈ L → n < 1000) {i:Nat} (hi:i < L.length):gn L i < 1000 :=h _ (by simp [gn,List.getD,hi])
theorem qiu {w:List UInt8} {L:List Nat} (hw:w.length ≤ 5) {i:Nat} (hi:i ≤ 2000):(lnW w (L.take i)).length ≤ 8005 :=by
 have k :=qd9 (L.take i) w
 rw [List.length_take] at k
 have:min i L.length ≤ i :=Nat.min_le_left _ _
 omega
theorem qph {v:AV} {L:List Nat} (hv:IL v (zl L)) (h:∀ n,n ∈ L → n < 1000) (hl:L.length ≤ 2000):Pure prog 82 [.iface 135 v] (.str (lnW qbv L)) :=by
 have lv :=hv.no
 have pn :=qmg hv
 obtain ⟨w,ew⟩ : ∃ w,w = qbv :=⟨_,rfl⟩
 have hw:w.length ≤ 5 :=by rw [ew];exact kle rfl
 rw [← ew]
 have e0:AV.str [110,101,118,101,114] = .str (lnW w (L.take 0)) :=by rw [ew];rfl
 rcases hv with ⟨rfl,e⟩ | rfl
 ·have eL:L = [] :=List.map_eq_nil_iff.1 e
  refine qap hE rfl (by repeat' first|exact trivial|assumption|exact qal _|exact fun _ h => nomatch h|apply And.intro) (by repeat' first|exact trivial|assumption|exact qal _|exact fun _ h => nomatch h|apply And.intro) fun S q pc hS hq hC hE => ?_
  conv => whnf
  repeat ((first|refine qad hC (pn) ?_|refine qac hS (by kernel_rfl) ?_);conv => whnf)
  refine qao hE hS ?_
  conv => whnf
  repeat ((first|refine qac hS (by kernel_rfl) ?_);conv => whnf)
  exact ⟨_,rfl,wk_s (by rw [eL,ew];rfl)⟩
 ·have lL :=qa5 (zl L)
  refine qap hE rfl (by repeat' first|exact trivial|assumption|exact qal _|exact fun _ h => nomatch h|apply And.intro) (by repeat' first|exact trivial|assumption|exact qal _|exact fun _ h => nomatch h|apply And.intro) fun S q pc hS hq hC hE => ?_
  conv => whnf
  repeat ((first|refine qad hC (pn) ?_|refine qac hS (by kernel_rfl) ?_);conv => whnf)
  refine qar hE hS (A :=Nat) [4,28,29] (fun i => [(3,.str (lnW w (L.take i))),(30,nv i)]) (fun _ => []) (fun _ => []) (fun i => i ≤ L.length) (fun i => L.length - i) 0 (kle rfl) rfl (by refine ⟨rfl,rfl,rfl,rfl,rfl,rfl,0,rfl,?_,?_⟩ <;> repeat' (first|exact trivial|exact rfl|exact wkr rfl|exact wko rfl|exact Nat.zero_le _|exact ⟨_,rfl,WkV.eq e0⟩|exact kle rfl|exact bdq|exact mxI rfl|exact mxS rfl|apply And.intro)) (Nat.zero_le _) ?_
  intro i hi K hK
  obtain rfl:K = 0 :=hK
  conv => whnf
  by_cases hi2:i < L.length
  ·have hi1:IntKind.i64.wrap (Int.ofNat i + 1) = Int.ofNat (i + 1) :=qav (m :=i + 1) (by omega)
   have hz:i < (zl L).length :=by rw [qbe];exact hi2
   have gr:nth (ivs (zl L)) (i * 1) = some (nv (gn L i)) :=(qaw (l :=zl L) (i :=i) hz).trans (by rw [qbg L hi2])
   have p1 :=qb1 (qeu h hi2)
   have f1 :=mil (qey (gn L i)) rfl
   have f2 :=qa0 (qiu (L :=L) hw (i :=i) (by omega)) (qey (gn L i))
   have f3 :=mil f2 rfl
   have e2:AV.str (lnW w (L.take i) ++ ([32] ++ dec (gn L i))) = .str (lnW w (L.take (i + 1))) :=by rw [qg3 w L hi2]
   repeat ((first|refine qaf (nthP gr) ?_|refine qah (qae hz) ?_|refine qag (qae hz) ?_|refine pkT (qae hz) ?_|refine qaa (qae hz) ?_|refine qam (qae hz) ?_|refine qan (qae hz) ?_|refine pkF (qae hz) ?_|refine qab (qae hz) ?_|refine qah (qai hz) ?_|refine qag (qai hz) ?_|refine pkT (qai hz) ?_|refine qaa (qai hz) ?_|refine qah (stOk f1) ?_|refine qag (stOk f1) ?_|refine pkT (stOk f1) ?_|refine qaa (stOk f1) ?_|refine qam (stOk f1) ?_|refine qan (stOk f1) ?_|refine pkF (stOk f1) ?_|refine qab (stOk f1) ?_|refine qah (stOk f3) ?_|refine qag (stOk f3) ?_|refine pkT (stOk f3) ?_|refine qaa (stOk f3) ?_|refine qam (stOk f3) ?_|refine qan (stOk f3) ?_|refine pkF (stOk f3) ?_|refine qab (stOk f3) ?_|refine qad hC (p1) ?_|refine qac hS (by kernel_rfl) ?_);conv => whnf)
   exact ⟨i + 1,hi2,by omega,Nat.le_refl _,(by refine ⟨rfl,rfl,rfl,rfl,rfl,rfl,0,rfl,?_,?_⟩ <;> repeat' (first|exact trivial|exact rfl|exact wkr rfl|exact wko rfl|exact Nat.zero_le _|exact ⟨_,rfl,WkV.int hi1⟩|exact ⟨_,rfl,WkV.eq e2⟩|exact kle rfl|exact bdq|exact mxI rfl|exact mxS rfl|apply And.intro))⟩
  ·refine qab (qa9 (show ¬ i < (zl L).length by rw [qbe];exact hi2)) ?_
   conv => whnf
   refine .inl ?_
   conv => whnf
   have f4:(lnW w (L.take i) ++ []).length ≤ 1000000 :=by rw [List.append_nil];exact mil (qiu (L :=L) hw (by omega)) rfl
   repeat ((first|refine qah (stOk f4) ?_|refine qag (stOk f4) ?_|refine pkT (stOk f4) ?_|refine qaa (stOk f4) ?_|refine qam (stOk f4) ?_|refine qan (stOk f4) ?_|refine pkF (stOk f4) ?_|refine qab (stOk f4) ?_|refine qac hS (by kernel_rfl) ?_);conv => whnf)
   exact ⟨_,rfl,wk_s (by rw [List.append_nil,show i = L.length by omega,List.take_length])⟩
theorem qpi {v:AV} {t:List (Nat × Nat)} (hv:PQ v (zp t)) (h:∀ n,n ∈ flN t → n < 1000) (hl:t.length ≤ 1000):Pure prog 82 [.iface 137 v] (.str (lnT t)) :=by
 have lv :=hv.no
 have pn :=qli hv hl
 obtain ⟨w,ew⟩ : ∃ w,w = qci :=⟨_,rfl⟩
 have hw:w.length ≤ 5 :=by rw [ew];exact kle rfl
 have hu :=qvx t
 have hl2 :=qaq t
 unfold lnT
 rw [← ew]
 obtain ⟨u,eu⟩ : ∃ u,u = flV t :=⟨_,rfl⟩
 rw [← eu] at hu pn
 obtain ⟨L,eL⟩ : ∃ L,L = flN t :=⟨_,rfl⟩
 rw [← eL] at hu h hl2 ⊢
 have e0:AV.str [116,114,97,105,110] = .str (lnW w (L.take 0)) :=by rw [ew];rfl
 rcases hu with ⟨rfl,e⟩ | rfl
 ·have eL:L = [] :=List.map_eq_nil_iff.1 e
  rcases hv with ⟨rfl,_⟩ | rfl
  all_goals
   refine qap hE rfl (by repeat' first|exact trivial|assumption|exact qal _|exact fun _ h => nomatch h|apply And.intro) (by repeat' first|exact trivial|assumption|exact qal _|exact fun _ h => nomatch h|apply And.intro) fun S q pc hS hq hC hE => ?_
   conv => whnf
   repeat ((first|refine qad hC (pn) ?_|refine qac hS (by kernel_rfl) ?_);conv => whnf)
   refine qao hE hS ?_
   conv => whnf
   repeat ((first|refine qac hS (by kernel_rfl) ?_);conv => whnf)
   exact ⟨_,rfl,wk_s (by rw [eL,ew];rfl)⟩
 ·have lL :=qa5 (zl L)
  rcases hv with ⟨rfl,_⟩ | rfl
  all_goals
   refine qap hE rfl (by repeat' first|exact trivial|assumption|exact qal _|exact fun _ h => nomatch h|apply And.intro) (by repeat' first|exact trivial|assumption|exact qal _|exact fun _ h => nomatch h|apply And.intro) fun S q pc hS hq hC hE => ?_
   conv => whnf
   repeat ((first|refine qad hC (pn) ?_|refine qac hS (by kernel_rfl) ?_);conv => whnf)
   refine qar hE hS (A :=Nat) [4,28,29] (fun i => [(3,.str (lnW w (L.take i))),(30,nv i)]) (fun _ => []) (fun _ => []) (fun i => i ≤ L.length) (fun i => L.length - i) 0 (kle rfl) rfl (by refine ⟨rfl,rfl,rfl,rfl,rfl,rfl,0,rfl,?_,?_⟩ <;> repeat' (first|exact trivial|exact rfl|exact wkr rfl|exact wko rfl|exact Nat.zero_le _|exact ⟨_,rfl,WkV.eq e0⟩|exact kle rfl|exact bdq|exact mxI rfl|exact mxS rfl|apply And.intro)) (Nat.zero_le _) ?_
   intro i hi K hK
   obtain rfl:K = 0 :=hK
   conv => whnf
   by_cases hi2:i < L.length
   ·have hi1:IntKind.i64.wrap (Int.ofNat i + 1) = Int.ofNat (i + 1) :=qav (m :=i + 1) (by omega)
    have hz:i < (zl L).length :=by rw [qbe];exact hi2
    have gr:nth (ivs (zl L)) (i * 1) = some (nv (gn L i)) :=(qaw (l :=zl L) (i :=i) hz).trans (by rw [qbg L hi2])
    have p1 :=qb1 (qeu h hi2)
    have f1 :=mil (qey (gn L i)) rfl
    have f2 :=qa0 (qiu (L :=L) hw (i :=i) (by omega)) (qey (gn L i))
    have f3 :=mil f2 rfl
    have e2:AV.str (lnW w (L.take i) ++ ([32] ++ dec (gn L i))) = .str (lnW w (L.take (i + 1))) :=by rw [qg3 w L hi2]
    repeat ((first|refine qaf (nthP gr) ?_|refine qah (qae hz) ?_|refine qag (qae hz) ?_|refine pkT (qae hz) ?_|refine qaa (qae hz) ?_|refine qam (qae hz) ?_|refine qan (qae hz) ?_|refine pkF (qae hz) ?_|refine qab (qae hz) ?_|refine qah (qai hz) ?_|refine qag (qai hz) ?_|refine pkT (qai hz) ?_|refine qaa (qai hz) ?_|refine qah (stOk f1) ?_|refine qag (stOk f1) ?_|refine pkT (stOk f1) ?_|refine qaa (stOk f1) ?_|refine qam (stOk f1) ?_|refine qan (stOk f1) ?_|refine pkF (stOk f1) ?_|refine qab (stOk f1) ?_|refine qah (stOk f3) ?_|refine qag (stOk f3) ?_|refine pkT (stOk f3) ?_|refine qaa (stOk f3) ?_|refine qam (stOk f3) ?_|refine qan (stOk f3) ?_|refine pkF (stOk f3) ?_|refine qab (stOk f3) ?_|refine qad hC (p1) ?_|refine qac hS (by kernel_rfl) ?_);conv => whnf)
    exact ⟨i + 1,hi2,by omega,Nat.le_refl _,(by refine ⟨rfl,rfl,rfl,rfl,rfl,rfl,0,rfl,?_,?_⟩ <;> repeat' (first|exact trivial|exact rfl|exact wkr rfl|exact wko rfl|exact Nat.zero_le _|exact ⟨_,rfl,WkV.int hi1⟩|exact ⟨_,rfl,WkV.eq e2⟩|exact kle rfl|exact bdq|exact mxI rfl|exact mxS rfl|apply And.intro))⟩
   ·refine qab (qa9 (show ¬ i < (zl L).length by rw [qbe];exact hi2)) ?_
    conv => whnf
    refine .inl ?_
    conv => whnf
    have f4:(lnW w (L.take i) ++ []).length ≤ 1000000 :=by rw [List.append_nil];exact mil (qiu (L :=L) hw (by omega)) rfl
    repeat ((first|refine qah (stOk f4) ?_|refine qag (stOk f4) ?_|refine pkT (stOk f4) ?_|refine qaa (stOk f4) ?_|refine qam (stOk f4) ?_|refine qan (stOk f4) ?_|refine pkF (stOk f4) ?_|refine qab (stOk f4) ?_|refine qac hS (by kernel_rfl) ?_);conv => whnf)
    exact ⟨_,rfl,wk_s (by rw [List.append_nil,show i = L.length by omega,List.take_length])⟩
theorem qbu:Pure prog 87 [] (.agg [.str [97,110,121],.str [115,97,109,101],.str [111,116,104,101,114]]) :=by
 refine qap hE rfl (by repeat' first|exact trivial|assumption|exact qal _|exact fun _ h => nomatch h|apply And.intro) (by repeat' first|exact trivial|assumption|exact qal _|exact fun _ h => nomatch h|apply And.intro) fun S q pc hS hq hC hE => ?_
 conv => whnf
 exact ⟨_,rfl,Wk.refl _⟩
theorem qpm {a b c s:Nat} {N:AV} {l:List Int} (hN:IL N l):Pure prog 170 [.agg [nv a,nv b,nv c,nv s,N]] (nl (zl [a,b,c])) :=by
 have lN :=hN.no
 rcases hN with ⟨rfl,_⟩ | rfl
 all_goals
  refine qap hE rfl (by repeat' first|exact trivial|assumption|exact qal _|exact fun _ h => nomatch h|apply And.intro) (by repeat' first|exact trivial|assumption|exact qal _|exact fun _ h => nomatch h|apply And.intro) fun S q pc hS hq hC hE => ?_
  conv => whnf
  exact ⟨_,rfl,(WkV.own _ _ _).wk⟩
theorem quc {a b c s:Nat} {N:AV} {l:List Int} (hN:IL N l) (ha:a < 1000) (hb:b < 1000) (hc:c < 1000) (hs:s = 1 ∨ s = 2 ∨ s = 3):Pure prog 82 [.iface 134 (.agg [nv a,nv b,nv c,nv s,N])] (.str (lnR (a,b,c,s))) :=by
 have p1 :=qb1 ha
 have p2 :=qb1 hb
 have p3 :=qb1 hc
 have b1 :=mil (qey a) rfl
 have b2 :=mil (qey b) rfl
 have b3 :=mil (qey c) rfl
 have g1 :=qa0 (kle rfl:([114,117,108,101]:List UInt8).length ≤ 4) (qey a)
 have g2 :=qa0 g1 (qey b)
 have g3 :=qa0 g2 (qey c)
 have d1 :=mil g1 rfl
 have d2 :=mil g2 rfl
 have d3 :=mil g3 rfl
 have f4:(lnW qhc [a,b,c] ++ ([32] ++ qcb s)).length ≤ 1000000 :=mil (qj1 (a,b,c,s)) rfl
 have pn :=qpm (a :=a) (b :=b) (c :=c) (s :=s) hN
 have lN :=hN.no
 rcases hN with ⟨rfl,_⟩ | rfl <;> rcases hs with rfl | rfl | rfl
 all_goals
  refine qap hE rfl (by repeat' first|exact trivial|assumption|exact qal _|exact fun _ h => nomatch h|apply And.intro) (by repeat' first|exact trivial|assumption|exact qal _|exact fun _ h => nomatch h|apply And.intro) fun S q pc hS hq hC hE => ?_
  conv => whnf
  repeat ((first|refine qad hC (qbu) ?_|refine qad hC (pn) ?_|refine qac hS (by kernel_rfl) ?_);conv => whnf)
  refine qao hE hS ?_
  conv => whnf
  repeat ((first|refine qah (stOk b1) ?_|refine qag (stOk b1) ?_|refine pkT (stOk b1) ?_|refine qaa (stOk b1) ?_|refine qam (stOk b1) ?_|refine qan (stOk b1) ?_|refine pkF (stOk b1) ?_|refine qab (stOk b1) ?_|refine qah (stOk d1) ?_|refine qag (stOk d1) ?_|refine pkT (stOk d1) ?_|refine qaa (stOk d1) ?_|refine qam (stOk d1) ?_|refine qan (stOk d1) ?_|refine pkF (stOk d1) ?_|refine qab (stOk d1) ?_|refine qad hC (p1) ?_|refine qac hS (by kernel_rfl) ?_);conv => whnf)
  refine qao hE hS ?_
  conv => whnf
  repeat ((first|refine qah (stOk b2) ?_|refine qag (stOk b2) ?_|refine pkT (stOk b2) ?_|refine qaa (stOk b2) ?_|refine qam (stOk b2) ?_|refine qan (stOk b2) ?_|refine pkF (stOk b2) ?_|refine qab (stOk b2) ?_|refine qah (stOk d2) ?_|refine qag (stOk d2) ?_|refine pkT (stOk d2) ?_|refine qaa (stOk d2) ?_|refine qam (stOk d2) ?_|refine qan (stOk d2) ?_|refine pkF (stOk d2) ?_|refine qab (stOk d2) ?_|refine qad hC (p2) ?_|refine qac hS (by kernel_rfl) ?_);conv => whnf)
  refine qao hE hS ?_
  conv => whnf
  repeat ((first|refine qah (stOk b3) ?_|refine qag (stOk b3) ?_|refine pkT (stOk b3) ?_|refine qaa (stOk b3) ?_|refine qam (stOk b3) ?_|refine qan (stOk b3) ?_|refine pkF (stOk b3) ?_|refine qab (stOk b3) ?_|refine qah (stOk d3) ?_|refine qag (stOk d3) ?_|refine pkT (stOk d3) ?_|refine qaa (stOk d3) ?_|refine qam (stOk d3) ?_|refine qan (stOk d3) ?_|refine pkF (stOk d3) ?_|refine qab (stOk d3) ?_|refine qad hC (p3) ?_|refine qac hS (by kernel_rfl) ?_);conv => whnf)
  refine qao hE hS ?_
  conv => whnf
  repeat ((first|refine qah (stOk f4) ?_|refine qag (stOk f4) ?_|refine pkT (stOk f4) ?_|refine qaa (stOk f4) ?_|refine qam (stOk f4) ?_|refine qan (stOk f4) ?_|refine pkF (stOk f4) ?_|refine qab (stOk f4) ?_|refine qac hS (by kernel_rfl) ?_);conv => whnf)
  exact ⟨_,rfl,wk_s rfl⟩
end
end Go.Abs.Seat
namespace Go.Abs.Seat
noncomputable section
open Go Go.Abs Go.Proofs.Tryz
set_option maxRecDepth 100000
set_option maxHeartbeats 40000000
attribute [local irreducible] IntKind.wrap pEq
theorem qzq {x:Nat} (h:¬ (48 ≤ x ∧ x ≤ 57)):decide (Int.ofNat x < 48) = true ∨ (decide (Int.ofNat x < 48) = false ∧ decide (Int.ofNat x > 57) = true) :=by
 by_cases c:x < 48
 ·exact .inl (decide_eq_true (by simp only [Int.ofNat_eq_natCast];omega))
 ·exact .inr ⟨decide_eq_false (by simp only [Int.ofNat_eq_natCast];omega),decide_eq_true (by simp only [Int.ofNat_eq_natCast];omega)⟩
theorem isdg {x:Nat} (h1:48 ≤ x) (h2:x ≤ 57):decide (Int.ofNat x < 48) = false ∧ decide (Int.ofNat x > 57) = false :=⟨decide_eq_false (by simp only [Int.ofNat_eq_natCast];omega),decide_eq_false (by simp only [Int.ofNat_eq_natCast];omega)⟩
theorem dgu:∀ x,x < 58 → 48 ≤ x → IntKind.i64.wrap (IntKind.u8.wrap (Int.ofNat x - 48)) = Int.ofNat (x - 48) :=by decide +kernel
def dgA (w:List UInt8) (i:Nat):Prop :=∀ j,j < i → 48 ≤ (w.getD j 0).toNat ∧ (w.getD j 0).toNat ≤ 57
end
end Go.Abs.Seat
namespace Go.Abs.Seat
noncomputable section
open Go Go.Abs Go.Proofs.Tryz
set_option maxRecDepth 100000
set_option maxHeartbeats 40000000
attribute [local irreducible] IntKind.wrap pEq qbt Utf8.decode
theorem qwb (s:List UInt8):Pure prog 85 [.bool true,.str s] (.tup []) :=by
 refine qap hE rfl (by repeat' first|exact trivial|assumption|exact qal _|exact fun _ h => nomatch h|apply And.intro) (by repeat' first|exact trivial|assumption|exact qal _|exact fun _ h => nomatch h|apply And.intro) fun S q pc hS hq hC hE => ?_
 conv => whnf
 exact ⟨_,rfl,Wk.refl _⟩
theorem qfk (s:List UInt8):qc4 prog 85 [.bool false,.str s] (noP s) :=by
 refine qbs hE rfl (by repeat' first|exact trivial|assumption|exact qal _|exact fun _ h => nomatch h|apply And.intro) (by simp [noP,Live,Lives]) fun S q pc hS hq hC hE => ?_
 conv => whnf
 rfl
theorem qat {t:Bool} (h:t = true) (s:List UInt8):Pure prog 85 [.bool t,.str s] (.tup []) :=by subst h;exact qwb s
theorem qb8 {t:Bool} (h:t = false) (s:List UInt8):qc4 prog 85 [.bool t,.str s] (noP s) :=by subst h;exact qfk s
theorem qbf {T:Tr TypeInfo} {t e:TypeId} {inf:TypeInfo} {L:List (List UInt8)} {k1:IntKind} {x:Int} {a:Nat} (hT:tyU T t = some (.slice e)) (hi:T.get e = some inf) (h1:inf.size = 1) (hx:x = Int.ofNat a) (hb:a ≤ L.length):qbt T t (.lst (stA L) L.length .no) (some (.int k1 x)) none = .chk true (.ret (.lst (stA (L.drop a)) (L.length - a) .no)) :=by
 subst hx
 unfold qbt
 rw [hT]
 have e1:bnd none L.length L.length = some L.length :=rfl
 have e2:bnd (some (.int k1 (Int.ofNat a))) 0 L.length = some a :=by
  have z1:decide ((0:Int) ≤ Int.ofNat a) = true :=decide_eq_true (Int.natCast_nonneg _)
  have z2:decide (Int.ofNat a ≤ (L.length:Int)) = true :=decide_eq_true (Int.ofNat_le.2 hb)
  simp only [bnd]
  show (match decide ((0:Int) ≤ Int.ofNat a) && decide (Int.ofNat a ≤ (L.length:Int)) with | true => some (Int.ofNat a).toNat | false => none) = some a
  rw [z1,z2];rfl
 have e3:decide (a * inf.size ≤ (stA L).length) = true :=decide_eq_true (by rw [h1,qex];omega)
 have e4:qei ((L.length - a) * inf.size) (qfs (a * inf.size) (stA L)) = some (stA (L.drop a)) :=by
  rw [h1,Nat.mul_one,Nat.mul_one,drpN,takN _ _ (by rw [List.length_drop,qex];omega)]
  unfold stA
  rw [← List.map_drop,List.take_of_length_le (by rw [List.length_map,List.length_drop];omega)]
 simp only [hi,e1,e2,e3,e4]
theorem qmz {s w:List UInt8} {l:List (List UInt8)} (hs:s.length ≤ 1000) (h:spl 32 s = w :: l):Pure prog 86 [.str s,.str w] (.lst (stA l) l.length .no) :=by
 have pS :=qbw s 32 hs
 rw [h] at pS
 have lR :=qax (w :: l)
 have lO :=qax l
 have ir:inR 0 (w :: l).length = true :=qai (i :=0) (Nat.succ_pos _)
 have t0:(w == w) = true :=beq_self_eq_true w
 refine qap hE rfl (by repeat' first|exact trivial|assumption|exact qal _|exact fun _ h => nomatch h|apply And.intro) (by repeat' first|exact trivial|assumption|exact qal _|exact fun _ h => nomatch h|apply And.intro) fun S q pc hS hq hC hE => ?_
 conv => whnf
 repeat ((first|refine qaf (qbf (L :=w :: l) (a :=1) (e :=9) (inf :=t9) (by kernel_rfl) (by kernel_rfl) (by kernel_rfl) rfl (Nat.succ_pos _)) ?_|refine qah ir ?_|refine qag ir ?_|refine pkT ir ?_|refine qaa ir ?_|refine qad hC (pS) ?_|refine qad hC (qat t0 s) ?_|refine qac hS (by kernel_rfl) ?_);conv => whnf)
 exact ⟨_,rfl,Wk.refl _⟩
theorem qkh {s w:List UInt8} (hs:s.length ≤ 1000) (h:¬ ∃ l,spl 32 s = w :: l):qc4 prog 86 [.str s,.str w] (noP s) :=by
 have pS :=qbw s 32 hs
 have hne :=qes 32 s
 have lS:Lives noL [AV.str s,AV.str w] :=⟨trivial,trivial,trivial⟩
 cases hp:spl 32 s with
 |nil => exact absurd hp hne
 |cons p0 r =>
  rw [hp] at pS
  have lR :=qax (p0 :: r)
  have ir:inR 0 (p0 :: r).length = true :=qai (i :=0) (Nat.succ_pos _)
  have t0:(p0 == w) = false :=beq_eq_false_iff_ne.2 fun z => h ⟨r,by rw [hp,z]⟩
  refine qbs hE rfl (by repeat' first|exact trivial|assumption|exact qal _|exact fun _ h => nomatch h|apply And.intro) (by simp [noP,Live,Lives]) fun S q pc hS hq hC hE => ?_
  conv => whnf
  repeat ((first|refine qah ir ?_|refine qag ir ?_|refine pkT ir ?_|refine qaa ir ?_|refine qad hC (pS) ?_|refine qac hS (by kernel_rfl) ?_);conv => whnf)
  refine qa7 hC ?_
  conv => whnf
  refine qba hS (qb8 t0 s) ?_
  conv => whnf
def nlV (L:List Nat):AV :=if L = [] then .nils else nl (zl L)
theorem qdh (L:List Nat):IL (nlV L) (zl L) :=by
 unfold nlV
 split
 ·rename_i e;exact .inl ⟨rfl,by rw [e];rfl⟩
 ·exact .inr rfl
def tdV (L:List Nat) (i c:Nat):AV :=.lst (ivs (zl (L.take i))) i (.ch c)
theorem qcl (L:List Nat) (i:Nat) {c n:Nat} (h:c + 1 ≤ n):bd (tdV L i c) ≤ n :=Nat.max_le.2 ⟨h,qak (qa5 _)⟩
def uxT (L:List Nat) (i:Nat):List AObj :=[.siter (dec (gn L 0)) (dec (gn L 0)).length,.chain i 1 3]
structure IsW (w:List UInt8):Prop where
 dg:∀ p,p < w.length → 48 ≤ (w.getD p 0).toNat ∧ (w.getD p 0).toNat ≤ 57
 le:w.length ≤ 3
 ne:w ≠ []
 eq:dec (valD w) = w
theorem qj3 {n:Nat} (h:n < 1000):IsW (dec n) :=by
 obtain ⟨h1,h2,h3,h4⟩ :=qxg.1 ⟨n,h,rfl⟩
 refine ⟨fun p hp => ?_,h2,h3,h4⟩
 have e:(dec n).getD p 0 = (dec n)[p] :=by simp [List.getD,hp]
 rw [e]
 exact h1 _ (List.getElem_mem hp)
theorem qkj {w:List UInt8} (h:∀ p,p < w.length → 48 ≤ (w.getD p 0).toNat ∧ (w.getD p 0).toNat ≤ 57) (hl:w.length ≤ 3) {p:Nat} (hp:p ≤ w.length):valD (w.take p) < 1000 :=by
 refine qlg (fun b hb => ?_) (by rw [List.length_take];omega)
 obtain ⟨i,hi,e⟩ :=List.getElem_of_mem (List.mem_of_mem_take hb)
 have k :=h i hi
 have e2:w.getD i 0 = b :=by rw [← e];simp [List.getD,hi]
 rw [e2] at k
 exact k
theorem qgk {w:List UInt8} {p:Nat} (hA:dgA w p) (hl:w.length ≤ 3) (hp:p ≤ w.length):valD (w.take p) < 1000 :=by
 refine qlg (fun b hb => ?_) (by rw [List.length_take];omega)
 obtain ⟨i,hi,e⟩ :=List.getElem_of_mem hb
 rw [List.length_take] at hi
 have k :=hA i (by omega)
 have e2:w.getD i 0 = b :=by rw [← e];simp [List.getD,show i < w.length by omega]
 rw [e2] at k
 exact k
theorem qid {w:List UInt8} {p:Nat} (hd:Utf8.decode ⟨w.toArray⟩ p = ((w.getD p 0).toNat,1)) (hg:48 ≤ (w.getD p 0).toNat ∧ (w.getD p 0).toNat ≤ 57) (hp:p < w.length) (hv:valD (w.take p) < 1000):IntKind.i64.wrap (IntKind.i64.wrap (10 * Int.ofNat (valD (w.take p))) + IntKind.i64.wrap (IntKind.i32.wrap (Int.ofNat (Utf8.decode ⟨w.toArray⟩ p).1 - 48))) = Int.ofNat (valD (w.take (p + 1))) :=by
 rw [hd,dgv _ (show (w.getD p 0).toNat < 58 by omega) hg.1,show IntKind.i64.wrap (10 * Int.ofNat (valD (w.take p))) = Int.ofNat (10 * valD (w.take p)) from qav (m :=10 * valD (w.take p)) (by omega),qkk w hp]
 exact qav (m :=10 * valD (w.take p) + ((w.getD p 0).toNat - 48)) (by omega)
theorem qf0 (L:List Nat) (c:Nat) (h:0 < L.length):AV.lst [nv (gn L 0)] (0 + 1) (.ch c) = tdV L 1 c :=by
 unfold tdV
 rw [qlk L h];rfl
theorem qg5 (L:List Nat) (c:Nat) {i:Nat} (h:i < L.length):AV.lst (ivs (zl (L.take i)) ++ [nv (gn L i)]) (i + (0 + 1)) (.ch c) = tdV L (i + 1) c :=by
 unfold tdV
 rw [qlk L h,qpt]
theorem qwg {L:List Nat} (h:∀ n,n ∈ L → n < 1000) (hl:L.length ≤ 1000):Pure prog 89 [.lst (stA (L.map dec)) L.length .no] (nlV L) :=by
 have lW :=qax (L.map dec)
 have lR :=(qdh L).no
 have lK :=fun i => qa5 (zl (L.take i))
 have gx:∀ i,i < L.length → nth (stA (L.map dec)) (i * 1) = some (.str (dec (gn L i))) :=fun i hi => by
  have k :=qa4 (l :=L.map dec) (i :=i) (by rw [List.length_map];exact hi)
  rw [k]
  simp [gB,gn,List.getD,hi]
 refine qap hE rfl (by repeat' first|exact trivial|assumption|exact qal _|exact fun _ h => nomatch h|apply And.intro) (by repeat' first|exact trivial|assumption|exact qal _|exact fun _ h => nomatch h|apply And.intro) fun S q pc hS hq hC hE => ?_
 conv => whnf
 repeat ((first|refine qac hS (by kernel_rfl) ?_);conv => whnf)
 refine qar hE hS (A :=Nat × AV × List AObj) [9,10] (fun (i,v,_) => [(3,v),(11,nv i)]) (fun _ => []) (fun a => a.2.2) (fun (i,v,ux) => i ≤ L.length ∧ (i = 0 ∧ v = .nils ∧ ux = [] ∨ 0 < i ∧ v = tdV L i 1 ∧ ux = uxT L i)) (fun (i,_,_) => L.length - i) (0,.nils,[]) (kle rfl) rfl (by refine ⟨rfl,rfl,rfl,rfl,rfl,rfl,0,rfl,?_,?_⟩ <;> repeat' (first|exact trivial|exact rfl|exact wkr rfl|exact wko rfl|exact Nat.zero_le _|exact qcl _ _ (by decide)|exact kle rfl|exact bdq|exact mxI rfl|exact mxS rfl|apply And.intro)) ⟨Nat.zero_le _,.inl ⟨rfl,rfl,rfl⟩⟩ ?_
 rintro ⟨i,v,ux⟩ ⟨hi,hv⟩ K hK
 have hi:i ≤ L.length :=hi
 refine Or.elim hv (fun hv => ?_) fun hv => ?_
 ·obtain ⟨rfl,rfl,rfl⟩ :=hv
  obtain rfl:K = 0 :=hK
  conv => whnf
  by_cases hi2:0 < L.length
  ·repeat ((first|refine qaf (nthP (gx _ hi2)) ?_|refine qah (qae hi2) ?_|refine qag (qae hi2) ?_|refine pkT (qae hi2) ?_|refine qaa (qae hi2) ?_|refine qam (qae hi2) ?_|refine qan (qae hi2) ?_|refine pkF (qae hi2) ?_|refine qab (qae hi2) ?_|refine qah (qai hi2) ?_|refine qag (qai hi2) ?_|refine pkT (qai hi2) ?_|refine qaa (qai hi2) ?_|refine qac hS (by kernel_rfl) ?_);conv => whnf)
   obtain ⟨w,ew⟩ : ∃ w,w = dec (gn L 0) :=⟨_,rfl⟩
   have hw :=qj3 (qeu h hi2)
   rw [← ew] at hw
   have eS:AV.str (dec (gn L 0)) = .str w :=by rw [ew]
   have eO:AObj.siter (dec (gn L 0)) 0 = .siter w 0 :=by rw [ew]
   have t3:decide ((w.length:Int) ≤ 3) = true :=decide_eq_true (by have :=hw.le;omega)
   have vE:valD w = gn L 0 :=by rw [ew];exact qd0 _ (qeu h hi2)
   refine qar hE hS (A :=Nat) [3,9,10,11,16] (fun p => [(5,.str w),(6,nv (valD (w.take p)))]) (fun p => [(0,.siter w p)]) (fun _ => []) (fun p => p ≤ w.length) (fun p => w.length - p) 0 (kle rfl) rfl (by refine ⟨rfl,rfl,rfl,rfl,rfl,rfl,1,rfl,?_,?_⟩ <;> repeat' (first|exact trivial|exact rfl|exact wkr rfl|exact wko rfl|exact Nat.zero_le _|exact ⟨_,rfl,WkV.eq eS⟩|exact eO|exact qcl _ _ (by decide)|exact kle rfl|exact bdq|exact mxI rfl|exact mxS rfl|apply And.intro)) (Nat.zero_le _) ?_
   intro p hp K hK
   obtain rfl:K = 1 :=hK
   conv => whnf
   by_cases hp2:p < w.length
   ·have hg :=hw.dg p hp2
    have hd :=qe7 hp2 (show (w.getD p 0).toNat < 128 by omega)
    have n0:decide (p < w.length) = true :=decide_eq_true hp2
    have t1:decide (Int.ofNat (Utf8.decode ⟨w.toArray⟩ p).1 ≥ 48) = true :=decide_eq_true (by rw [hd];simp only [Int.ofNat_eq_natCast];omega)
    have t2:decide (Int.ofNat (Utf8.decode ⟨w.toArray⟩ p).1 ≤ 57) = true :=decide_eq_true (by rw [hd];simp only [Int.ofNat_eq_natCast];omega)
    have hV :=qid hd hg hp2 (qkj hw.dg hw.le (p :=p) (by omega))
    have eP:AObj.siter w (p + (Utf8.decode ⟨w.toArray⟩ p).2) = .siter w (p + 1) :=by rw [hd]
    repeat ((first|refine qaf (nx_t n0) ?_|refine qah t1 ?_|refine qag t1 ?_|refine pkT t1 ?_|refine qaa t1 ?_|refine qah (qa1 t1) ?_|refine qag (qa1 t1) ?_|refine pkT (qa1 t1) ?_|refine qaa (qa1 t1) ?_|refine qah t2 ?_|refine qag t2 ?_|refine pkT t2 ?_|refine qaa t2 ?_|refine qah (qa1 t2) ?_|refine qag (qa1 t2) ?_|refine pkT (qa1 t2) ?_|refine qaa (qa1 t2) ?_|refine qad hC (qat t3 w) ?_|refine qac hS (by kernel_rfl) ?_);conv => whnf)
    exact ⟨p + 1,hp2,by omega,Nat.le_refl _,(by refine ⟨rfl,rfl,rfl,rfl,rfl,rfl,1,rfl,?_,?_⟩ <;> repeat' (first|exact trivial|exact rfl|exact wkr rfl|exact wko rfl|exact Nat.zero_le _|exact ⟨_,rfl,WkV.int hV⟩|exact eP|exact qcl _ _ (by decide)|exact kle rfl|exact bdq|exact mxI rfl|exact mxS rfl|apply And.intro))⟩
   ·have hpE:p = w.length :=by omega
    have n0:decide (p < w.length) = false :=decide_eq_false hp2
    have pI :=qb1 (qkj hw.dg hw.le (p :=p) (by omega))
    have t4:(!(w == [])) = true :=by rw [beq_eq_false_iff_ne.2 hw.ne];rfl
    have t5:(dec (valD (w.take p)) == w) = true :=by rw [hpE,List.take_length,hw.eq];exact beq_self_eq_true _
    have vP:valD (w.take p) = gn L 0 :=by rw [hpE,List.take_length,vE]
    have eU:AObj.siter w p = .siter (dec (gn L 0)) (dec (gn L 0)).length :=by rw [hpE,ew]
    have e2:AV.lst [nv (valD (w.take p))] (0 + 1) (.ch 1) = tdV L 1 1 :=by rw [vP];exact qf0 L 1 hi2
    repeat ((first|refine qaf (nx_f n0) ?_|refine qac hS (by kernel_rfl) ?_);conv => whnf)
    refine .inl ?_
    conv => whnf
    repeat ((first|refine qah t4 ?_|refine qag t4 ?_|refine pkT t4 ?_|refine qaa t4 ?_|refine qah (qa1 t4) ?_|refine qag (qa1 t4) ?_|refine pkT (qa1 t4) ?_|refine qaa (qa1 t4) ?_|refine qad hC (pI) ?_|refine qad hC (qat t5 w) ?_|refine qac hS (by kernel_rfl) ?_);conv => whnf)
    exact ⟨(1,tdV L 1 1,uxT L 1),⟨hi2,.inr ⟨Nat.zero_lt_one,rfl,rfl⟩⟩,by show L.length - 1 < L.length - 0;omega,kle rfl,(by refine ⟨rfl,rfl,rfl,rfl,rfl,rfl,2,rfl,?_,?_⟩ <;> repeat' (first|exact trivial|exact rfl|exact wkr rfl|exact wko rfl|exact Nat.zero_le _|exact eU|exact ⟨_,rfl,WkV.int (qav (m :=1) (by decide))⟩|exact ⟨_,rfl,WkV.eq e2⟩|exact qcl _ _ (by decide)|exact kle rfl|exact bdq|exact mxI rfl|exact mxS rfl|apply And.intro))⟩
  ·refine qab (qa9 hi2) ?_
   conv => whnf
   refine .inl ?_
   conv => whnf
   have eL:L.length = 0 :=by omega
   have e0:L = [] :=List.eq_nil_of_length_eq_zero eL
   have eR:nlV L = .nils :=if_pos e0
   rw [eR]
   exact ⟨_,rfl,Wk.refl _⟩
 ·obtain ⟨hj2,rfl,rfl⟩ :=hv
  obtain rfl:K = 2 :=hK
  conv => whnf
  by_cases hi2:i < L.length
  ·repeat ((first|refine qaf (nthP (gx _ hi2)) ?_|refine qah (qae hi2) ?_|refine qag (qae hi2) ?_|refine pkT (qae hi2) ?_|refine qaa (qae hi2) ?_|refine qam (qae hi2) ?_|refine qan (qae hi2) ?_|refine pkF (qae hi2) ?_|refine qab (qae hi2) ?_|refine qah (qai hi2) ?_|refine qag (qai hi2) ?_|refine pkT (qai hi2) ?_|refine qaa (qai hi2) ?_|refine qac hS (by kernel_rfl) ?_);conv => whnf)
   obtain ⟨w,ew⟩ : ∃ w,w = dec (gn L i) :=⟨_,rfl⟩
   have hw :=qj3 (qeu h hi2)
   rw [← ew] at hw
   have eS:AV.str (dec (gn L i)) = .str w :=by rw [ew]
   have eO:AObj.siter (dec (gn L i)) 0 = .siter w 0 :=by rw [ew]
   have t3:decide ((w.length:Int) ≤ 3) = true :=decide_eq_true (by have :=hw.le;omega)
   have vE:valD w = gn L i :=by rw [ew];exact qd0 _ (qeu h hi2)
   refine qar hE hS (A :=Nat) [3,9,10,11,16] (fun p => [(5,.str w),(6,nv (valD (w.take p)))]) (fun p => [(2,.siter w p)]) (fun _ => []) (fun p => p ≤ w.length) (fun p => w.length - p) 0 (kle rfl) rfl (by refine ⟨rfl,rfl,rfl,rfl,rfl,rfl,3,rfl,?_,?_⟩ <;> repeat' (first|exact trivial|exact rfl|exact wkr rfl|exact wko rfl|exact Nat.zero_le _|exact ⟨_,rfl,WkV.eq eS⟩|exact eO|exact qcl _ _ (by decide)|exact kle rfl|exact bdq|exact mxI rfl|exact mxS rfl|apply And.intro)) (Nat.zero_le _) ?_
   intro p hp K hK
   obtain rfl:K = 3 :=hK
   conv => whnf
   by_cases hp2:p < w.length
   ·have hg :=hw.dg p hp2
    have hd :=qe7 hp2 (show (w.getD p 0).toNat < 128 by omega)
    have n0:decide (p < w.length) = true :=decide_eq_true hp2
    have t1:decide (Int.ofNat (Utf8.decode ⟨w.toArray⟩ p).1 ≥ 48) = true :=decide_eq_true (by rw [hd];simp only [Int.ofNat_eq_natCast];omega)
    have t2:decide (Int.ofNat (Utf8.decode ⟨w.toArray⟩ p).1 ≤ 57) = true :=decide_eq_true (by rw [hd];simp only [Int.ofNat_eq_natCast];omega)
    have hV :=qid hd hg hp2 (qkj hw.dg hw.le (p :=p) (by omega))
    have eP:AObj.siter w (p + (Utf8.decode ⟨w.toArray⟩ p).2) = .siter w (p + 1) :=by rw [hd]
    repeat ((first|refine qaf (nx_t n0) ?_|refine qah t1 ?_|refine qag t1 ?_|refine pkT t1 ?_|refine qaa t1 ?_|refine qah (qa1 t1) ?_|refine qag (qa1 t1) ?_|refine pkT (qa1 t1) ?_|refine qaa (qa1 t1) ?_|refine qah t2 ?_|refine qag t2 ?_|refine pkT t2 ?_|refine qaa t2 ?_|refine qah (qa1 t2) ?_|refine qag (qa1 t2) ?_|refine pkT (qa1 t2) ?_|refine qaa (qa1 t2) ?_|refine qad hC (qat t3 w) ?_|refine qac hS (by kernel_rfl) ?_);conv => whnf)
    exact ⟨p + 1,hp2,by omega,Nat.le_refl _,(by refine ⟨rfl,rfl,rfl,rfl,rfl,rfl,3,rfl,?_,?_⟩ <;> repeat' (first|exact trivial|exact rfl|exact wkr rfl|exact wko rfl|exact Nat.zero_le _|exact ⟨_,rfl,WkV.int hV⟩|exact eP|exact qcl _ _ (by decide)|exact kle rfl|exact bdq|exact mxI rfl|exact mxS rfl|apply And.intro))⟩
   ·have hpE:p = w.length :=by omega
    have n0:decide (p < w.length) = false :=decide_eq_false hp2
    have pI :=qb1 (qkj hw.dg hw.le (p :=p) (by omega))
    have t4:(!(w == [])) = true :=by rw [beq_eq_false_iff_ne.2 hw.ne];rfl
    have t5:(dec (valD (w.take p)) == w) = true :=by rw [hpE,List.take_length,hw.eq];exact beq_self_eq_true _
    have vP:valD (w.take p) = gn L i :=by rw [hpE,List.take_length,vE]
    have eU:AObj.siter w p = .siter (dec (gn L i)) (dec (gn L i)).length :=by rw [hpE,ew]
    have e2:AV.lst (ivs (zl (L.take i)) ++ [nv (valD (w.take p))]) (i + (0 + 1)) (.ch 1) = tdV L (i + 1) 1 :=by rw [vP];exact qg5 L 1 hi2
    have d1:decide ((i + (0 + 1)) * 8 ≤ 140737488355328) = true :=decide_eq_true (by omega)
    have d2:decide (i + (0 + 1) ≤ 9223372036854775807) = true :=decide_eq_true (by omega)
    have d4:decide (i = i) = true :=decide_eq_true rfl
    have d5 :=qg4 L hi
    have hi1:IntKind.i64.wrap (Int.ofNat i + 1) = Int.ofNat (i + 1) :=qav (m :=i + 1) (by omega)
    repeat ((first|refine qaf (nx_f n0) ?_|refine qac hS (by kernel_rfl) ?_);conv => whnf)
    refine .inl ?_
    conv => whnf
    repeat ((first|refine qah t4 ?_|refine qag t4 ?_|refine pkT t4 ?_|refine qaa t4 ?_|refine qah (qa1 t4) ?_|refine qag (qa1 t4) ?_|refine pkT (qa1 t4) ?_|refine qaa (qa1 t4) ?_|refine qah d1 ?_|refine qag d1 ?_|refine pkT d1 ?_|refine qaa d1 ?_|refine qah d2 ?_|refine qag d2 ?_|refine pkT d2 ?_|refine qaa d2 ?_|refine qah d4 ?_|refine qag d4 ?_|refine pkT d4 ?_|refine qaa d4 ?_|refine qah d5 ?_|refine qag d5 ?_|refine pkT d5 ?_|refine qaa d5 ?_|refine qam d5 ?_|refine qan d5 ?_|refine pkF d5 ?_|refine qab d5 ?_|refine qad hC (pI) ?_|refine qad hC (qat t5 w) ?_|refine qac hS (by kernel_rfl) ?_);conv => whnf)
    exact ⟨(i + 1,tdV L (i + 1) 1,uxT L (i + 1)),⟨hi2,.inr ⟨Nat.succ_pos _,rfl,rfl⟩⟩,by show L.length - (i + 1) < L.length - i;omega,kle rfl,(by refine ⟨rfl,rfl,rfl,rfl,rfl,rfl,2,rfl,?_,?_⟩ <;> repeat' (first|exact trivial|exact rfl|exact wkr rfl|exact wko rfl|exact Nat.zero_le _|exact ⟨_,rfl,WkV.int hi1⟩|exact ⟨_,rfl,WkV.eq e2⟩|exact qcl _ _ (by decide)|exact kle rfl|exact bdq|exact mxI rfl|exact mxS rfl|apply And.intro))⟩
  ·refine qab (qa9 hi2) ?_
   conv => whnf
   refine .inl ?_
   conv => whnf
   have eL:L.length = i :=by omega
   have e0:L ≠ [] :=fun z => by rw [z] at eL;rw [← eL] at hj2;exact absurd hj2 (Nat.lt_irrefl _)
   have eR:nlV L = nl (zl L) :=if_neg e0
   rw [eR]
   exact ⟨_,rfl,qrf (by rw [List.length_take];omega) (by rw [← eL,List.take_length])⟩
theorem qtb {L:List Nat} {w:List UInt8} {R:List (List UInt8)} (h:∀ n,n ∈ L → n < 1000) (hl:L.length ≤ 1000) (hR:R.length ≤ 1000) (hwl:w.length ≤ 1000) (hbad:¬ ∃ n,n < 1000 ∧ w = dec n):qc4 prog 89 [.lst (stA (L.map dec ++ w :: R)) (L.length + (R.length + 1)) .no] (noP w) :=by
 have lW :=qax (L.map dec ++ w :: R)
 have lK :=fun i => qa5 (zl (L.take i))
 have hN:(L.map dec ++ w :: R).length = L.length + (R.length + 1) :=by rw [List.length_append,List.length_map,List.length_cons]
 have gx:∀ i,i < L.length → nth (stA (L.map dec ++ w :: R)) (i * 1) = some (.str (dec (gn L i))) :=fun i hi => by
  have k :=qa4 (l :=L.map dec ++ w :: R) (i :=i) (by omega)
  rw [k,qiy (by rw [List.length_map];exact hi)]
  simp [gB,gn,List.getD,hi]
 have gw:nth (stA (L.map dec ++ w :: R)) (L.length * 1) = some (.str w) :=by
  have k :=qa4 (l :=L.map dec ++ w :: R) (i :=L.length) (by omega)
  rw [k]
  simp [gB,List.getD]
 have lS:Lives noL [AV.lst (stA (L.map dec ++ w :: R)) (L.length + (R.length + 1)) .no] :=⟨⟨lW,fun _ e => nomatch e⟩,trivial⟩
 refine qbs hE rfl (by repeat' first|exact trivial|assumption|exact qal _|exact fun _ h => nomatch h|apply And.intro) (by simp [noP,Live,Lives]) fun S q pc hS hq hC hE => ?_
 conv => whnf
 repeat ((first|refine qac hS (by kernel_rfl) ?_);conv => whnf)
 refine qar hE hS (A :=Nat × AV × List AObj) [9,10] (fun (i,v,_) => [(3,v),(11,nv i)]) (fun _ => []) (fun a => a.2.2) (fun (i,v,ux) => i ≤ L.length ∧ (i = 0 ∧ v = .nils ∧ ux = [] ∨ 0 < i ∧ v = tdV L i 1 ∧ ux = uxT L i)) (fun (i,_,_) => L.length - i) (0,.nils,[]) (kle rfl) rfl (by refine ⟨rfl,rfl,rfl,rfl,rfl,rfl,0,rfl,?_,?_⟩ <;> repeat' (first|exact trivial|exact rfl|exact wkr rfl|exact wko rfl|exact Nat.zero_le _|exact qcl _ _ (by decide)|exact kle rfl|exact bdq|exact mxI rfl|exact mxS rfl|apply And.intro)) ⟨Nat.zero_le _,.inl ⟨rfl,rfl,rfl⟩⟩ ?_
 rintro ⟨i,v,ux⟩ ⟨hi,hv⟩ K hK
 have hi:i ≤ L.length :=hi
 refine Or.elim hv (fun hv => ?_) fun hv => ?_
 ·obtain ⟨rfl,rfl,rfl⟩ :=hv
  obtain rfl:K = 0 :=hK
  conv => whnf
  have hiN:0 < L.length + (R.length + 1) :=by omega
  by_cases hi2:0 < L.length
  ·repeat ((first|refine qaf (nthP (gx _ hi2)) ?_|refine qah (qae hiN) ?_|refine qag (qae hiN) ?_|refine pkT (qae hiN) ?_|refine qaa (qae hiN) ?_|refine qam (qae hiN) ?_|refine qan (qae hiN) ?_|refine pkF (qae hiN) ?_|refine qab (qae hiN) ?_|refine qah (qai hiN) ?_|refine qag (qai hiN) ?_|refine pkT (qai hiN) ?_|refine qaa (qai hiN) ?_|refine qac hS (by kernel_rfl) ?_);conv => whnf)
   obtain ⟨w,ew⟩ : ∃ w,w = dec (gn L 0) :=⟨_,rfl⟩
   have hw :=qj3 (qeu h hi2)
   rw [← ew] at hw
   have eS:AV.str (dec (gn L 0)) = .str w :=by rw [ew]
   have eO:AObj.siter (dec (gn L 0)) 0 = .siter w 0 :=by rw [ew]
   have t3:decide ((w.length:Int) ≤ 3) = true :=decide_eq_true (by have :=hw.le;omega)
   have vE:valD w = gn L 0 :=by rw [ew];exact qd0 _ (qeu h hi2)
   refine qar hE hS (A :=Nat) [3,9,10,11,16] (fun p => [(5,.str w),(6,nv (valD (w.take p)))]) (fun p => [(0,.siter w p)]) (fun _ => []) (fun p => p ≤ w.length) (fun p => w.length - p) 0 (kle rfl) rfl (by refine ⟨rfl,rfl,rfl,rfl,rfl,rfl,1,rfl,?_,?_⟩ <;> repeat' (first|exact trivial|exact rfl|exact wkr rfl|exact wko rfl|exact Nat.zero_le _|exact ⟨_,rfl,WkV.eq eS⟩|exact eO|exact qcl _ _ (by decide)|exact kle rfl|exact bdq|exact mxI rfl|exact mxS rfl|apply And.intro)) (Nat.zero_le _) ?_
   intro p hp K hK
   obtain rfl:K = 1 :=hK
   conv => whnf
   by_cases hp2:p < w.length
   ·have hg :=hw.dg p hp2
    have hd :=qe7 hp2 (show (w.getD p 0).toNat < 128 by omega)
    have n0:decide (p < w.length) = true :=decide_eq_true hp2
    have t1:decide (Int.ofNat (Utf8.decode ⟨w.toArray⟩ p).1 ≥ 48) = true :=decide_eq_true (by rw [hd];simp only [Int.ofNat_eq_natCast];omega)
    have t2:decide (Int.ofNat (Utf8.decode ⟨w.toArray⟩ p).1 ≤ 57) = true :=decide_eq_true (by rw [hd];simp only [Int.ofNat_eq_natCast];omega)
    have hV :=qid hd hg hp2 (qkj hw.dg hw.le (p :=p) (by omega))
    have eP:AObj.siter w (p + (Utf8.decode ⟨w.toArray⟩ p).2) = .siter w (p + 1) :=by rw [hd]
    repeat ((first|refine qaf (nx_t n0) ?_|refine qah t1 ?_|refine qag t1 ?_|refine pkT t1 ?_|refine qaa t1 ?_|refine qah (qa1 t1) ?_|refine qag (qa1 t1) ?_|refine pkT (qa1 t1) ?_|refine qaa (qa1 t1) ?_|refine qah t2 ?_|refine qag t2 ?_|refine pkT t2 ?_|refine qaa t2 ?_|refine qah (qa1 t2) ?_|refine qag (qa1 t2) ?_|refine pkT (qa1 t2) ?_|refine qaa (qa1 t2) ?_|refine qad hC (qat t3 w) ?_|refine qac hS (by kernel_rfl) ?_);conv => whnf)
    exact ⟨p + 1,hp2,by omega,Nat.le_refl _,(by refine ⟨rfl,rfl,rfl,rfl,rfl,rfl,1,rfl,?_,?_⟩ <;> repeat' (first|exact trivial|exact rfl|exact wkr rfl|exact wko rfl|exact Nat.zero_le _|exact ⟨_,rfl,WkV.int hV⟩|exact eP|exact qcl _ _ (by decide)|exact kle rfl|exact bdq|exact mxI rfl|exact mxS rfl|apply And.intro))⟩
   ·have hpE:p = w.length :=by omega
    have n0:decide (p < w.length) = false :=decide_eq_false hp2
    have pI :=qb1 (qkj hw.dg hw.le (p :=p) (by omega))
    have t4:(!(w == [])) = true :=by rw [beq_eq_false_iff_ne.2 hw.ne];rfl
    have t5:(dec (valD (w.take p)) == w) = true :=by rw [hpE,List.take_length,hw.eq];exact beq_self_eq_true _
    have vP:valD (w.take p) = gn L 0 :=by rw [hpE,List.take_length,vE]
    have eU:AObj.siter w p = .siter (dec (gn L 0)) (dec (gn L 0)).length :=by rw [hpE,ew]
    have e2:AV.lst [nv (valD (w.take p))] (0 + 1) (.ch 1) = tdV L 1 1 :=by rw [vP];exact qf0 L 1 hi2
    repeat ((first|refine qaf (nx_f n0) ?_|refine qac hS (by kernel_rfl) ?_);conv => whnf)
    refine .inl ?_
    conv => whnf
    repeat ((first|refine qah t4 ?_|refine qag t4 ?_|refine pkT t4 ?_|refine qaa t4 ?_|refine qah (qa1 t4) ?_|refine qag (qa1 t4) ?_|refine pkT (qa1 t4) ?_|refine qaa (qa1 t4) ?_|refine qad hC (pI) ?_|refine qad hC (qat t5 w) ?_|refine qac hS (by kernel_rfl) ?_);conv => whnf)
    exact ⟨(1,tdV L 1 1,uxT L 1),⟨hi2,.inr ⟨Nat.zero_lt_one,rfl,rfl⟩⟩,by show L.length - 1 < L.length - 0;omega,kle rfl,(by refine ⟨rfl,rfl,rfl,rfl,rfl,rfl,2,rfl,?_,?_⟩ <;> repeat' (first|exact trivial|exact rfl|exact wkr rfl|exact wko rfl|exact Nat.zero_le _|exact eU|exact ⟨_,rfl,WkV.int (qav (m :=1) (by decide))⟩|exact ⟨_,rfl,WkV.eq e2⟩|exact qcl _ _ (by decide)|exact kle rfl|exact bdq|exact mxI rfl|exact mxS rfl|apply And.intro))⟩
  ·have eL:L.length = 0 :=by omega
   rw [eL] at gw
   repeat ((first|refine qaf (nthP gw) ?_|refine qah (qae hiN) ?_|refine qag (qae hiN) ?_|refine pkT (qae hiN) ?_|refine qaa (qae hiN) ?_|refine qam (qae hiN) ?_|refine qan (qae hiN) ?_|refine pkF (qae hiN) ?_|refine qab (qae hiN) ?_|refine qah (qai hiN) ?_|refine qag (qai hiN) ?_|refine pkT (qai hiN) ?_|refine qaa (qai hiN) ?_|refine qac hS (by kernel_rfl) ?_);conv => whnf)
   refine qar hE hS (A :=Nat) [3,9,10,11,16] (fun p => [(5,.str w),(6,nv (valD (w.take p)))]) (fun p => [(0,.siter w p)]) (fun _ => []) (fun p => p ≤ w.length ∧ dgA w p ∧ (0 < p → w.length ≤ 3)) (fun p => w.length - p) 0 (kle rfl) rfl (by refine ⟨rfl,rfl,rfl,rfl,rfl,rfl,1,rfl,?_,?_⟩ <;> repeat' (first|exact trivial|exact rfl|exact wkr rfl|exact wko rfl|exact Nat.zero_le _|exact qcl _ _ (by decide)|exact kle rfl|exact bdq|exact mxI rfl|exact mxS rfl|apply And.intro)) ⟨Nat.zero_le _,fun _ h => absurd h (Nat.not_lt_zero _),fun h => absurd h (Nat.lt_irrefl _)⟩ ?_
   intro p ⟨hp,hA,h3⟩ K hK
   obtain rfl:K = 1 :=hK
   conv => whnf
   by_cases hp2:p < w.length
   ·have n0:decide (p < w.length) = true :=decide_eq_true hp2
    refine Or.elim (qk7 hp2) (fun hg => ?_) fun hg => ?_
    ·have hd :=hg.2.2
     have t1:decide (Int.ofNat (Utf8.decode ⟨w.toArray⟩ p).1 ≥ 48) = true :=decide_eq_true (by rw [hd];have :=hg.1;simp only [Int.ofNat_eq_natCast];omega)
     have t2:decide (Int.ofNat (Utf8.decode ⟨w.toArray⟩ p).1 ≤ 57) = true :=decide_eq_true (by rw [hd];have :=hg.2.1;simp only [Int.ofNat_eq_natCast];omega)
     by_cases hl3:w.length ≤ 3
     ·have t3:decide ((w.length:Int) ≤ 3) = true :=decide_eq_true (by omega)
      have hV :=qid hd ⟨hg.1,hg.2.1⟩ hp2 (qgk hA hl3 (by omega))
      have eP:AObj.siter w (p + (Utf8.decode ⟨w.toArray⟩ p).2) = .siter w (p + 1) :=by rw [hd]
      repeat ((first|refine qaf (nx_t n0) ?_|refine qah t1 ?_|refine qag t1 ?_|refine pkT t1 ?_|refine qaa t1 ?_|refine qah (qa1 t1) ?_|refine qag (qa1 t1) ?_|refine pkT (qa1 t1) ?_|refine qaa (qa1 t1) ?_|refine qah t2 ?_|refine qag t2 ?_|refine pkT t2 ?_|refine qaa t2 ?_|refine qah (qa1 t2) ?_|refine qag (qa1 t2) ?_|refine pkT (qa1 t2) ?_|refine qaa (qa1 t2) ?_|refine qad hC (qat t3 w) ?_|refine qac hS (by kernel_rfl) ?_);conv => whnf)
      exact ⟨p + 1,⟨hp2,fun j hj => (Nat.lt_succ_iff_lt_or_eq.1 hj).elim (hA j) fun e => by rw [e];exact ⟨hg.1,hg.2.1⟩,fun _ => hl3⟩,by omega,Nat.le_refl _,(by refine ⟨rfl,rfl,rfl,rfl,rfl,rfl,1,rfl,?_,?_⟩ <;> repeat' (first|exact trivial|exact rfl|exact wkr rfl|exact wko rfl|exact Nat.zero_le _|exact ⟨_,rfl,WkV.int hV⟩|exact eP|exact qcl _ _ (by decide)|exact kle rfl|exact bdq|exact mxI rfl|exact mxS rfl|apply And.intro))⟩
     ·have t3:decide ((w.length:Int) ≤ 3) = false :=decide_eq_false (by omega)
      repeat ((first|refine qaf (nx_t n0) ?_|refine qah t1 ?_|refine qag t1 ?_|refine pkT t1 ?_|refine qaa t1 ?_|refine qah (qa1 t1) ?_|refine qag (qa1 t1) ?_|refine pkT (qa1 t1) ?_|refine qaa (qa1 t1) ?_|refine qah t2 ?_|refine qag t2 ?_|refine pkT t2 ?_|refine qaa t2 ?_|refine qah (qa1 t2) ?_|refine qag (qa1 t2) ?_|refine pkT (qa1 t2) ?_|refine qaa (qa1 t2) ?_|refine qac hS (by kernel_rfl) ?_);conv => whnf)
      refine qa7 hC ?_
      conv => whnf
      refine qba hS (qb8 t3 w) ?_
      conv => whnf
    ·have hn :=hg.2
     by_cases h1:48 ≤ (Utf8.decode ⟨w.toArray⟩ p).1
     ·have t1:decide (Int.ofNat (Utf8.decode ⟨w.toArray⟩ p).1 ≥ 48) = true :=decide_eq_true (by simp only [Int.ofNat_eq_natCast];omega)
      have t2:decide (Int.ofNat (Utf8.decode ⟨w.toArray⟩ p).1 ≤ 57) = false :=decide_eq_false (by simp only [Int.ofNat_eq_natCast];omega)
      repeat ((first|refine qaf (nx_t n0) ?_|refine qah t1 ?_|refine qag t1 ?_|refine pkT t1 ?_|refine qaa t1 ?_|refine qah (qa1 t1) ?_|refine qag (qa1 t1) ?_|refine pkT (qa1 t1) ?_|refine qaa (qa1 t1) ?_|refine qam t2 ?_|refine qan t2 ?_|refine pkF t2 ?_|refine qab t2 ?_|refine qam (qb3 t2) ?_|refine qan (qb3 t2) ?_|refine pkF (qb3 t2) ?_|refine qab (qb3 t2) ?_|refine qac hS (by kernel_rfl) ?_);conv => whnf)
      refine qa7 hC ?_
      conv => whnf
      refine qba hS (qfk w) ?_
      conv => whnf
     ·have t1:decide (Int.ofNat (Utf8.decode ⟨w.toArray⟩ p).1 ≥ 48) = false :=decide_eq_false (by simp only [Int.ofNat_eq_natCast];omega)
      repeat ((first|refine qaf (nx_t n0) ?_|refine qam t1 ?_|refine qan t1 ?_|refine pkF t1 ?_|refine qab t1 ?_|refine qam (qb3 t1) ?_|refine qan (qb3 t1) ?_|refine pkF (qb3 t1) ?_|refine qab (qb3 t1) ?_|refine qac hS (by kernel_rfl) ?_);conv => whnf)
      refine qa7 hC ?_
      conv => whnf
      refine qba hS (qfk w) ?_
      conv => whnf
   ·have hpE:p = w.length :=by omega
    have n0:decide (p < w.length) = false :=decide_eq_false hp2
    by_cases hw0:w = []
    ·have t4:(!(w == [])) = false :=by rw [hw0];rfl
     repeat ((first|refine qaf (nx_f n0) ?_|refine qac hS (by kernel_rfl) ?_);conv => whnf)
     refine .inl ?_
     conv => whnf
     repeat ((first|refine qam t4 ?_|refine qan t4 ?_|refine pkF t4 ?_|refine qab t4 ?_|refine qam (qb3 t4) ?_|refine qan (qb3 t4) ?_|refine pkF (qb3 t4) ?_|refine qab (qb3 t4) ?_|refine qac hS (by kernel_rfl) ?_);conv => whnf)
     refine qa7 hC ?_
     conv => whnf
     refine qba hS (qfk w) ?_
     conv => whnf
    ·have hl3:w.length ≤ 3 :=h3 (by have :=List.length_pos_iff.2 hw0;omega)
     have pI :=qb1 (qgk hA hl3 (p :=p) (by omega))
     have t4:(!(w == [])) = true :=by rw [beq_eq_false_iff_ne.2 hw0];rfl
     have t5:(dec (valD (w.take p)) == w) = false :=beq_eq_false_iff_ne.2 fun z => hbad ⟨valD (w.take p),qgk hA hl3 (by omega),z.symm⟩
     repeat ((first|refine qaf (nx_f n0) ?_|refine qac hS (by kernel_rfl) ?_);conv => whnf)
     refine .inl ?_
     conv => whnf
     repeat ((first|refine qah t4 ?_|refine qag t4 ?_|refine pkT t4 ?_|refine qaa t4 ?_|refine qah (qa1 t4) ?_|refine qag (qa1 t4) ?_|refine pkT (qa1 t4) ?_|refine qaa (qa1 t4) ?_|refine qad hC (pI) ?_|refine qac hS (by kernel_rfl) ?_);conv => whnf)
     refine qa7 hC ?_
     conv => whnf
     refine qba hS (qb8 t5 w) ?_
     conv => whnf
 ·obtain ⟨hj2,rfl,rfl⟩ :=hv
  obtain rfl:K = 2 :=hK
  conv => whnf
  have hiN:i < L.length + (R.length + 1) :=by omega
  by_cases hi2:i < L.length
  ·repeat ((first|refine qaf (nthP (gx _ hi2)) ?_|refine qah (qae hiN) ?_|refine qag (qae hiN) ?_|refine pkT (qae hiN) ?_|refine qaa (qae hiN) ?_|refine qam (qae hiN) ?_|refine qan (qae hiN) ?_|refine pkF (qae hiN) ?_|refine qab (qae hiN) ?_|refine qah (qai hiN) ?_|refine qag (qai hiN) ?_|refine pkT (qai hiN) ?_|refine qaa (qai hiN) ?_|refine qac hS (by kernel_rfl) ?_);conv => whnf)
   obtain ⟨w,ew⟩ : ∃ w,w = dec (gn L i) :=⟨_,rfl⟩
   have hw :=qj3 (qeu h hi2)
   rw [← ew] at hw
   have eS:AV.str (dec (gn L i)) = .str w :=by rw [ew]
   have eO:AObj.siter (dec (gn L i)) 0 = .siter w 0 :=by rw [ew]
   have t3:decide ((w.length:Int) ≤ 3) = true :=decide_eq_true (by have :=hw.le;omega)
   have vE:valD w = gn L i :=by rw [ew];exact qd0 _ (qeu h hi2)
   refine qar hE hS (A :=Nat) [3,9,10,11,16] (fun p => [(5,.str w),(6,nv (valD (w.take p)))]) (fun p => [(2,.siter w p)]) (fun _ => []) (fun p => p ≤ w.length) (fun p => w.length - p) 0 (kle rfl) rfl (by refine ⟨rfl,rfl,rfl,rfl,rfl,rfl,3,rfl,?_,?_⟩ <;> repeat' (first|exact trivial|exact rfl|exact wkr rfl|exact wko rfl|exact Nat.zero_le _|exact ⟨_,rfl,WkV.eq eS⟩|exact eO|exact qcl _ _ (by decide)|exact kle rfl|exact bdq|exact mxI rfl|exact mxS rfl|apply And.intro)) (Nat.zero_le _) ?_
   intro p hp K hK
   obtain rfl:K = 3 :=hK
   conv => whnf
   by_cases hp2:p < w.length
   ·have hg :=hw.dg p hp2
    have hd :=qe7 hp2 (show (w.getD p 0).toNat < 128 by omega)
    have n0:decide (p < w.length) = true :=decide_eq_true hp2
    have t1:decide (Int.ofNat (Utf8.decode ⟨w.toArray⟩ p).1 ≥ 48) = true :=decide_eq_true (by rw [hd];simp only [Int.ofNat_eq_natCast];omega)
    have t2:decide (Int.ofNat (Utf8.decode ⟨w.toArray⟩ p).1 ≤ 57) = true :=decide_eq_true (by rw [hd];simp only [Int.ofNat_eq_natCast];omega)
    have hV :=qid hd hg hp2 (qkj hw.dg hw.le (p :=p) (by omega))
    have eP:AObj.siter w (p + (Utf8.decode ⟨w.toArray⟩ p).2) = .siter w (p + 1) :=by rw [hd]
    repeat ((first|refine qaf (nx_t n0) ?_|refine qah t1 ?_|refine qag t1 ?_|refine pkT t1 ?_|refine qaa t1 ?_|refine qah (qa1 t1) ?_|refine qag (qa1 t1) ?_|refine pkT (qa1 t1) ?_|refine qaa (qa1 t1) ?_|refine qah t2 ?_|refine qag t2 ?_|refine pkT t2 ?_|refine qaa t2 ?_|refine qah (qa1 t2) ?_|refine qag (qa1 t2) ?_|refine pkT (qa1 t2) ?_|refine qaa (qa1 t2) ?_|refine qad hC (qat t3 w) ?_|refine qac hS (by kernel_rfl) ?_);conv => whnf)
    exact ⟨p + 1,hp2,by omega,Nat.le_refl _,(by refine ⟨rfl,rfl,rfl,rfl,rfl,rfl,3,rfl,?_,?_⟩ <;> repeat' (first|exact trivial|exact rfl|exact wkr rfl|exact wko rfl|exact Nat.zero_le _|exact ⟨_,rfl,WkV.int hV⟩|exact eP|exact qcl _ _ (by decide)|exact kle rfl|exact bdq|exact mxI rfl|exact mxS rfl|apply And.intro))⟩
   ·have hpE:p = w.length :=by omega
    have n0:decide (p < w.length) = false :=decide_eq_false hp2
    have pI :=qb1 (qkj hw.dg hw.le (p :=p) (by omega))
    have t4:(!(w == [])) = true :=by rw [beq_eq_false_iff_ne.2 hw.ne];rfl
    have t5:(dec (valD (w.take p)) == w) = true :=by rw [hpE,List.take_length,hw.eq];exact beq_self_eq_true _
    have vP:valD (w.take p) = gn L i :=by rw [hpE,List.take_length,vE]
    have eU:AObj.siter w p = .siter (dec (gn L i)) (dec (gn L i)).length :=by rw [hpE,ew]
    have e2:AV.lst (ivs (zl (L.take i)) ++ [nv (valD (w.take p))]) (i + (0 + 1)) (.ch 1) = tdV L (i + 1) 1 :=by rw [vP];exact qg5 L 1 hi2
    have d1:decide ((i + (0 + 1)) * 8 ≤ 140737488355328) = true :=decide_eq_true (by omega)
    have d2:decide (i + (0 + 1) ≤ 9223372036854775807) = true :=decide_eq_true (by omega)
    have d4:decide (i = i) = true :=decide_eq_true rfl
    have d5 :=qg4 L hi
    have hi1:IntKind.i64.wrap (Int.ofNat i + 1) = Int.ofNat (i + 1) :=qav (m :=i + 1) (by omega)
    repeat ((first|refine qaf (nx_f n0) ?_|refine qac hS (by kernel_rfl) ?_);conv => whnf)
    refine .inl ?_
    conv => whnf
    repeat ((first|refine qah t4 ?_|refine qag t4 ?_|refine pkT t4 ?_|refine qaa t4 ?_|refine qah (qa1 t4) ?_|refine qag (qa1 t4) ?_|refine pkT (qa1 t4) ?_|refine qaa (qa1 t4) ?_|refine qah d1 ?_|refine qag d1 ?_|refine pkT d1 ?_|refine qaa d1 ?_|refine qah d2 ?_|refine qag d2 ?_|refine pkT d2 ?_|refine qaa d2 ?_|refine qah d4 ?_|refine qag d4 ?_|refine pkT d4 ?_|refine qaa d4 ?_|refine qah d5 ?_|refine qag d5 ?_|refine pkT d5 ?_|refine qaa d5 ?_|refine qam d5 ?_|refine qan d5 ?_|refine pkF d5 ?_|refine qab d5 ?_|refine qad hC (pI) ?_|refine qad hC (qat t5 w) ?_|refine qac hS (by kernel_rfl) ?_);conv => whnf)
    exact ⟨(i + 1,tdV L (i + 1) 1,uxT L (i + 1)),⟨hi2,.inr ⟨Nat.succ_pos _,rfl,rfl⟩⟩,by show L.length - (i + 1) < L.length - i;omega,kle rfl,(by refine ⟨rfl,rfl,rfl,rfl,rfl,rfl,2,rfl,?_,?_⟩ <;> repeat' (first|exact trivial|exact rfl|exact wkr rfl|exact wko rfl|exact Nat.zero_le _|exact ⟨_,rfl,WkV.int hi1⟩|exact ⟨_,rfl,WkV.eq e2⟩|exact qcl _ _ (by decide)|exact kle rfl|exact bdq|exact mxI rfl|exact mxS rfl|apply And.intro))⟩
  ·have eL:L.length = i :=by omega
   rw [eL] at gw
   repeat ((first|refine qaf (nthP gw) ?_|refine qah (qae hiN) ?_|refine qag (qae hiN) ?_|refine pkT (qae hiN) ?_|refine qaa (qae hiN) ?_|refine qam (qae hiN) ?_|refine qan (qae hiN) ?_|refine pkF (qae hiN) ?_|refine qab (qae hiN) ?_|refine qah (qai hiN) ?_|refine qag (qai hiN) ?_|refine pkT (qai hiN) ?_|refine qaa (qai hiN) ?_|refine qac hS (by kernel_rfl) ?_);conv => whnf)
   refine qar hE hS (A :=Nat) [3,9,10,11,16] (fun p => [(5,.str w),(6,nv (valD (w.take p)))]) (fun p => [(2,.siter w p)]) (fun _ => []) (fun p => p ≤ w.length ∧ dgA w p ∧ (0 < p → w.length ≤ 3)) (fun p => w.length - p) 0 (kle rfl) rfl (by refine ⟨rfl,rfl,rfl,rfl,rfl,rfl,3,rfl,?_,?_⟩ <;> repeat' (first|exact trivial|exact rfl|exact wkr rfl|exact wko rfl|exact Nat.zero_le _|exact qcl _ _ (by decide)|exact kle rfl|exact bdq|exact mxI rfl|exact mxS rfl|apply And.intro)) ⟨Nat.zero_le _,fun _ h => absurd h (Nat.not_lt_zero _),fun h => absurd h (Nat.lt_irrefl _)⟩ ?_
   intro p ⟨hp,hA,h3⟩ K hK
   obtain rfl:K = 3 :=hK
   conv => whnf
   by_cases hp2:p < w.length
   ·have n0:decide (p < w.length) = true :=decide_eq_true hp2
    refine Or.elim (qk7 hp2) (fun hg => ?_) fun hg => ?_
    ·have hd :=hg.2.2
     have t1:decide (Int.ofNat (Utf8.decode ⟨w.toArray⟩ p).1 ≥ 48) = true :=decide_eq_true (by rw [hd];have :=hg.1;simp only [Int.ofNat_eq_natCast];omega)
     have t2:decide (Int.ofNat (Utf8.decode ⟨w.toArray⟩ p).1 ≤ 57) = true :=decide_eq_true (by rw [hd];have :=hg.2.1;simp only [Int.ofNat_eq_natCast];omega)
     by_cases hl3:w.length ≤ 3
     ·have t3:decide ((w.length:Int) ≤ 3) = true :=decide_eq_true (by omega)
      have hV :=qid hd ⟨hg.1,hg.2.1⟩ hp2 (qgk hA hl3 (by omega))
      have eP:AObj.siter w (p + (Utf8.decode ⟨w.toArray⟩ p).2) = .siter w (p + 1) :=by rw [hd]
      repeat ((first|refine qaf (nx_t n0) ?_|refine qah t1 ?_|refine qag t1 ?_|refine pkT t1 ?_|refine qaa t1 ?_|refine qah (qa1 t1) ?_|refine qag (qa1 t1) ?_|refine pkT (qa1 t1) ?_|refine qaa (qa1 t1) ?_|refine qah t2 ?_|refine qag t2 ?_|refine pkT t2 ?_|refine qaa t2 ?_|refine qah (qa1 t2) ?_|refine qag (qa1 t2) ?_|refine pkT (qa1 t2) ?_|refine qaa (qa1 t2) ?_|refine qad hC (qat t3 w) ?_|refine qac hS (by kernel_rfl) ?_);conv => whnf)
      exact ⟨p + 1,⟨hp2,fun j hj => (Nat.lt_succ_iff_lt_or_eq.1 hj).elim (hA j) fun e => by rw [e];exact ⟨hg.1,hg.2.1⟩,fun _ => hl3⟩,by omega,Nat.le_refl _,(by refine ⟨rfl,rfl,rfl,rfl,rfl,rfl,3,rfl,?_,?_⟩ <;> repeat' (first|exact trivial|exact rfl|exact wkr rfl|exact wko rfl|exact Nat.zero_le _|exact ⟨_,rfl,WkV.int hV⟩|exact eP|exact qcl _ _ (by decide)|exact kle rfl|exact bdq|exact mxI rfl|exact mxS rfl|apply And.intro))⟩
     ·have t3:decide ((w.length:Int) ≤ 3) = false :=decide_eq_false (by omega)
      repeat ((first|refine qaf (nx_t n0) ?_|refine qah t1 ?_|refine qag t1 ?_|refine pkT t1 ?_|refine qaa t1 ?_|refine qah (qa1 t1) ?_|refine qag (qa1 t1) ?_|refine pkT (qa1 t1) ?_|refine qaa (qa1 t1) ?_|refine qah t2 ?_|refine qag t2 ?_|refine pkT t2 ?_|refine qaa t2 ?_|refine qah (qa1 t2) ?_|refine qag (qa1 t2) ?_|refine pkT (qa1 t2) ?_|refine qaa (qa1 t2) ?_|refine qac hS (by kernel_rfl) ?_);conv => whnf)
      refine qa7 hC ?_
      conv => whnf
      refine qba hS (qb8 t3 w) ?_
      conv => whnf
    ·have hn :=hg.2
     by_cases h1:48 ≤ (Utf8.decode ⟨w.toArray⟩ p).1
     ·have t1:decide (Int.ofNat (Utf8.decode ⟨w.toArray⟩ p).1 ≥ 48) = true :=decide_eq_true (by simp only [Int.ofNat_eq_natCast];omega)
      have t2:decide (Int.ofNat (Utf8.decode ⟨w.toArray⟩ p).1 ≤ 57) = false :=decide_eq_false (by simp only [Int.ofNat_eq_natCast];omega)
      repeat ((first|refine qaf (nx_t n0) ?_|refine qah t1 ?_|refine qag t1 ?_|refine pkT t1 ?_|refine qaa t1 ?_|refine qah (qa1 t1) ?_|refine qag (qa1 t1) ?_|refine pkT (qa1 t1) ?_|refine qaa (qa1 t1) ?_|refine qam t2 ?_|refine qan t2 ?_|refine pkF t2 ?_|refine qab t2 ?_|refine qam (qb3 t2) ?_|refine qan (qb3 t2) ?_|refine pkF (qb3 t2) ?_|refine qab (qb3 t2) ?_|refine qac hS (by kernel_rfl) ?_);conv => whnf)
      refine qa7 hC ?_
      conv => whnf
      refine qba hS (qfk w) ?_
      conv => whnf
     ·have t1:decide (Int.ofNat (Utf8.decode ⟨w.toArray⟩ p).1 ≥ 48) = false :=decide_eq_false (by simp only [Int.ofNat_eq_natCast];omega)
      repeat ((first|refine qaf (nx_t n0) ?_|refine qam t1 ?_|refine qan t1 ?_|refine pkF t1 ?_|refine qab t1 ?_|refine qam (qb3 t1) ?_|refine qan (qb3 t1) ?_|refine pkF (qb3 t1) ?_|refine qab (qb3 t1) ?_|refine qac hS (by kernel_rfl) ?_);conv => whnf)
      refine qa7 hC ?_
      conv => whnf
      refine qba hS (qfk w) ?_
      conv => whnf
   ·have hpE:p = w.length :=by omega
    have n0:decide (p < w.length) = false :=decide_eq_false hp2
    by_cases hw0:w = []
    ·have t4:(!(w == [])) = false :=by rw [hw0];rfl
     repeat ((first|refine qaf (nx_f n0) ?_|refine qac hS (by kernel_rfl) ?_);conv => whnf)
     refine .inl ?_
     conv => whnf
     repeat ((first|refine qam t4 ?_|refine qan t4 ?_|refine pkF t4 ?_|refine qab t4 ?_|refine qam (qb3 t4) ?_|refine qan (qb3 t4) ?_|refine pkF (qb3 t4) ?_|refine qab (qb3 t4) ?_|refine qac hS (by kernel_rfl) ?_);conv => whnf)
     refine qa7 hC ?_
     conv => whnf
     refine qba hS (qfk w) ?_
     conv => whnf
    ·have hl3:w.length ≤ 3 :=h3 (by have :=List.length_pos_iff.2 hw0;omega)
     have pI :=qb1 (qgk hA hl3 (p :=p) (by omega))
     have t4:(!(w == [])) = true :=by rw [beq_eq_false_iff_ne.2 hw0];rfl
     have t5:(dec (valD (w.take p)) == w) = false :=beq_eq_false_iff_ne.2 fun z => hbad ⟨valD (w.take p),qgk hA hl3 (by omega),z.symm⟩
     repeat ((first|refine qaf (nx_f n0) ?_|refine qac hS (by kernel_rfl) ?_);conv => whnf)
     refine .inl ?_
     conv => whnf
     repeat ((first|refine qah t4 ?_|refine qag t4 ?_|refine pkT t4 ?_|refine qaa t4 ?_|refine qah (qa1 t4) ?_|refine qag (qa1 t4) ?_|refine pkT (qa1 t4) ?_|refine qaa (qa1 t4) ?_|refine qad hC (pI) ?_|refine qac hS (by kernel_rfl) ?_);conv => whnf)
     refine qa7 hC ?_
     conv => whnf
     refine qba hS (qb8 t5 w) ?_
     conv => whnf
end
end Go.Abs.Seat
namespace Go.Abs.Seat
noncomputable section
open Go Go.Abs Go.Proofs.Tryz
set_option maxRecDepth 100000
set_option maxHeartbeats 40000000
attribute [local irreducible] pEq
abbrev hpS3 (W0:AObj):Tr AObj :=.node W0 (.node (.cells (.node (.str [97,110,121]) (.node (.str [115,97,109,101]) .nil .nil) (.node (.str [111,116,104,101,114]) .nil .nil)) 3 143) .nil .nil) .nil
theorem quk (W0:AObj):HEnd (hpS3 W0) 2 :=qg8 [W0,.cells (.node (.str [97,110,121]) (.node (.str [115,97,109,101]) .nil .nil) (.node (.str [111,116,104,101,114]) .nil .nil)) 3 143] 0 .nil qfi
def snI (w:List UInt8):Int :=if w = [97,110,121] then 0 else if w = [115,97,109,101] then 1 else if w = [111,116,104,101,114] then 2 else -1
theorem qfy {W0:AObj} (b0:BdO 2 W0) (w:List UInt8):HFun prog 88 [.slc 1 0 3 3,.str w] (hv (hpS3 W0)) 2 (iv (snI w)) (hv (hpS3 W0)) :=by
 have hBd:ObBd 2 (hpS3 W0) 2 :=by
  repeat' (first|exact trivial|exact b0|exact Nat.zero_le _|exact kle rfl|apply And.intro)
 refine qul hE rfl (quk W0) (kle rfl) (Nat.zero_le _) hBd hBd fun S q pc hS hq hC hE => ?_
 by_cases h1:w = [97,110,121]
 ·have c1:(w == [97,110,121]) = true :=beq_iff_eq.2 h1
  rw [snI,if_pos h1]
  conv => whnf
  refine qao hE hS ?_
  conv => whnf
  repeat ((first|refine qah c1 ?_|refine qag c1 ?_|refine pkT c1 ?_|refine qaa c1 ?_|refine qac hS (by kernel_rfl) ?_);conv => whnf)
  exact ⟨_,rfl,WkV.refl _,rfl,rfl,trivial⟩
 have c1:(w == [97,110,121]) = false :=beq_eq_false_iff_ne.2 h1
 by_cases h2:w = [115,97,109,101]
 ·have c2:(w == [115,97,109,101]) = true :=beq_iff_eq.2 h2
  rw [snI,if_neg h1,if_pos h2]
  conv => whnf
  refine qao hE hS ?_
  conv => whnf
  repeat ((first|refine qam c1 ?_|refine qan c1 ?_|refine pkF c1 ?_|refine qab c1 ?_|refine qac hS (by kernel_rfl) ?_);conv => whnf)
  refine qao hE hS ?_
  conv => whnf
  repeat ((first|refine qah c2 ?_|refine qag c2 ?_|refine pkT c2 ?_|refine qaa c2 ?_|refine qac hS (by kernel_rfl) ?_);conv => whnf)
  exact ⟨_,rfl,WkV.refl _,rfl,rfl,trivial⟩
 have c2:(w == [115,97,109,101]) = false :=beq_eq_false_iff_ne.2 h2
 by_cases h3:w = [111,116,104,101,114]
 ·have c3:(w == [111,116,104,101,114]) = true :=beq_iff_eq.2 h3
  rw [snI,if_neg h1,if_neg h2,if_pos h3]
  conv => whnf
  refine qao hE hS ?_
  conv => whnf
  repeat ((first|refine qam c1 ?_|refine qan c1 ?_|refine pkF c1 ?_|refine qab c1 ?_|refine qac hS (by kernel_rfl) ?_);conv => whnf)
  refine qao hE hS ?_
  conv => whnf
  repeat ((first|refine qam c2 ?_|refine qan c2 ?_|refine pkF c2 ?_|refine qab c2 ?_|refine qac hS (by kernel_rfl) ?_);conv => whnf)
  refine qao hE hS ?_
  conv => whnf
  repeat ((first|refine qah c3 ?_|refine qag c3 ?_|refine pkT c3 ?_|refine qaa c3 ?_|refine qac hS (by kernel_rfl) ?_);conv => whnf)
  exact ⟨_,rfl,WkV.refl _,rfl,rfl,trivial⟩
 have c3:(w == [111,116,104,101,114]) = false :=beq_eq_false_iff_ne.2 h3
 rw [snI,if_neg h1,if_neg h2,if_neg h3]
 conv => whnf
 refine qao hE hS ?_
 conv => whnf
 repeat ((first|refine qam c1 ?_|refine qan c1 ?_|refine pkF c1 ?_|refine qab c1 ?_|refine qac hS (by kernel_rfl) ?_);conv => whnf)
 refine qao hE hS ?_
 conv => whnf
 repeat ((first|refine qam c2 ?_|refine qan c2 ?_|refine pkF c2 ?_|refine qab c2 ?_|refine qac hS (by kernel_rfl) ?_);conv => whnf)
 refine qao hE hS ?_
 conv => whnf
 repeat ((first|refine qam c3 ?_|refine qan c3 ?_|refine pkF c3 ?_|refine qab c3 ?_|refine qac hS (by kernel_rfl) ?_);conv => whnf)
 refine qao hE hS ?_
 conv => whnf
 repeat ((first|refine qac hS (by kernel_rfl) ?_);conv => whnf)
 exact ⟨_,rfl,WkV.refl _,rfl,rfl,trivial⟩
theorem ob2S {h h':Tr AObj} (e:ObEq h h' 2):∀ i,i < 2 → hv h i = hv h' i :=e.lt
end
end Go.Abs.Seat
