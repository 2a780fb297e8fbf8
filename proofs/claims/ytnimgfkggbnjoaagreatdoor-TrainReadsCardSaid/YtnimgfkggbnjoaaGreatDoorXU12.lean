/-
  The text of a piece, as the program writes it.
-/
import Derived.Test.YtnimgfkggbnjoaaGreatDoorXU10
import Derived.Test.YtnimgfkggbnjoaaGreatDoorXB54
import Derived.Test.YtnimgfkggbnjoaaGreatDoorXU4
import Derived.Test.YtnimgfkggbnjoaaGreatDoorXU5
import Derived.Test.YtnimgfkggbnjoaaGreatDoorXU8
namespace Go.Abs.Seat
noncomputable section
open Go Go.Abs Go.Proofs.Tryz
set_option maxRecDepth 100000
set_option maxHeartbeats 40000000
attribute [local irreducible] IntKind.wrap pEq
def gB (l:List (List UInt8)) (i:Nat):List UInt8 :=l.getD i []
def ckL (s:List UInt8) (i:Nat):Nat → Nat
 | 0 => 0
 |k + 1 => ckL s i k + (s.getD k 0).toNat * (k + 1) * (i + 1)
def ckN (l:List (List UInt8)):Nat → Nat
 | 0 => 0
 |i + 1 => ckN l i + ckL (gB l i) i (gB l i).length
def ouB (l:List (List UInt8)):Nat → List UInt8
 | 0 => []
 |i + 1 => ouB l i ++ (gB l i ++ [10])
def finB (o:List UInt8) (c:Nat):List UInt8 :=((((o ++ [101,110,100,32]) ++ dec (c / 100)) ++ dec (c / 10 % 10)) ++ dec (c % 10)) ++ [10]
theorem qc4 {xs:List AV} (h:Lives noL xs) {k c n:Nat} (hc:c + 1 ≤ n):bd (.lst xs k (.ch c)) ≤ n :=Nat.max_le.2 ⟨hc,qc1 h⟩
theorem qwj {s:List UInt8} {i:Nat}:∀ k,ckL s i k ≤ k * (256 * (k * (i + 1)))
 | 0 => Nat.zero_le _
 |k + 1 => by
  have ih :=@qwj s i k
  rw [ckL]
  have hb:(s.getD k 0).toNat ≤ 256 :=Nat.le_of_lt (UInt8.toNat_lt _)
  have h1:k * (256 * (k * (i + 1))) ≤ k * (256 * ((k + 1) * (i + 1))) :=Nat.mul_le_mul_left _ (Nat.mul_le_mul_left _ (Nat.mul_le_mul_right _ (Nat.le_succ k)))
  have h2:(s.getD k 0).toNat * (k + 1) * (i + 1) ≤ 256 * ((k + 1) * (i + 1)) :=by rw [Nat.mul_assoc];exact Nat.mul_le_mul_right _ hb
  have h3:(k + 1) * (256 * ((k + 1) * (i + 1))) = k * (256 * ((k + 1) * (i + 1))) + 256 * ((k + 1) * (i + 1)) :=Nat.succ_mul _ _
  omega
end
end Go.Abs.Seat
namespace Go.Abs.Seat
noncomputable section
open Go Go.Abs Go.Proofs.Tryz
set_option maxRecDepth 100000
set_option maxHeartbeats 40000000
attribute [local irreducible] IntKind.wrap pEq Utf8.decode
def noP (s:List UInt8):List (AV × Bool) :=[(.iface 78 (.agg [.str s]),false)]
theorem nx_f {p n:Nat} {a b:Plan} (h:decide (p < n) = false):(match decide (p < n) with | true => a | false => b) = b :=by rw [h]
theorem nx_t {p n:Nat} {a b:Plan} (h:decide (p < n) = true):(match decide (p < n) with | true => a | false => b) = a :=by rw [h]
theorem qf3 {l:List UInt8} {p:Nat} (_h:p < l.length) (hb:(l.getD p 0).toNat < 128):Utf8.decode ⟨l.toArray⟩ p = ((l.getD p 0).toNat,1) :=by
 have e:(ByteArray.mk l.toArray).get! (p + 0) = l.getD p 0 :=by
  simp [ByteArray.get!,List.getD]
  rfl
 unfold Utf8.decode
 simp only [e,if_pos hb]
theorem qsz {l:List UInt8} {p:Nat} (_h:p < l.length) (hb:¬ (l.getD p 0).toNat < 128):128 ≤ (Utf8.decode ⟨l.toArray⟩ p).1 :=by
 have e:(ByteArray.mk l.toArray).get! (p + 0) = l.getD p 0 :=by
  simp [ByteArray.get!,List.getD]
  rfl
 unfold Utf8.decode
 simp only [e,if_neg hb]
 have r:128 ≤ Utf8.runeError :=by decide
 split
 ·split
  ·simpa using ‹_›
  ·exact r
 ·split
  ·split
   ·rename_i h1
    simp only [Bool.and_eq_true,decide_eq_true_eq] at h1
    exact Nat.le_trans (by decide) h1.1
   ·exact r
  ·split
   ·split
    ·rename_i h1
     simp only [Bool.and_eq_true,decide_eq_true_eq] at h1
     exact Nat.le_trans (by decide) h1.1
    ·exact r
   ·exact r
theorem qlw {l:List UInt8} {p:Nat} (h:p < l.length):(48 ≤ (l.getD p 0).toNat ∧ (l.getD p 0).toNat ≤ 57 ∧ Utf8.decode ⟨l.toArray⟩ p = ((l.getD p 0).toNat,1)) ∨ ¬ (48 ≤ (l.getD p 0).toNat ∧ (l.getD p 0).toNat ≤ 57) ∧ ¬ (48 ≤ (Utf8.decode ⟨l.toArray⟩ p).1 ∧ (Utf8.decode ⟨l.toArray⟩ p).1 ≤ 57) :=by
 by_cases hb:(l.getD p 0).toNat < 128
 ·have e :=qf3 h hb
  by_cases c:48 ≤ (l.getD p 0).toNat ∧ (l.getD p 0).toNat ≤ 57
  ·exact .inl ⟨c.1,c.2,e⟩
  ·exact .inr ⟨c,by rw [e];exact c⟩
 ·have e :=qsz h hb
  exact .inr ⟨fun z => by omega,fun z => by omega⟩
theorem dgv:∀ x,x < 58 → 48 ≤ x → IntKind.i64.wrap (IntKind.i32.wrap (Int.ofNat x - 48)) = Int.ofNat (x - 48) :=by decide +kernel
end
end Go.Abs.Seat
namespace Go.Abs.Seat
noncomputable section
open Go Go.Abs Go.Proofs.Tryz
set_option maxRecDepth 100000
set_option maxHeartbeats 40000000
attribute [local irreducible] pEq
theorem qff (c:UInt8):∀ s p,p ∈ spl c s → p.length ≤ s.length
 | [],p,h => by
  rw [spl] at h
  rw [List.mem_singleton.1 h]
  exact Nat.le_refl _
 |b :: r,p,h => by
  have ih :=qff c r
  rw [spl] at h
  split at h
  ·rcases List.mem_cons.1 h with rfl | h
   ·exact Nat.zero_le _
   ·have :=ih p h
    simp only [List.length_cons];omega
  ·split at h
   ·rename_i e
    exact absurd e (qgf c r)
   ·rename_i x t e
    rcases List.mem_cons.1 h with rfl | h
    ·have :=ih x (by rw [e];exact List.mem_cons_self ..)
     simp only [List.length_cons];omega
    ·have :=ih p (by rw [e];exact List.mem_cons_of_mem _ h)
     simp only [List.length_cons];omega
end
end Go.Abs.Seat
namespace Go.Abs.Seat
noncomputable section
open Go Go.Abs Go.Proofs.Tryz
set_option maxRecDepth 100000
set_option maxHeartbeats 40000000
attribute [local irreducible] IntKind.wrap pEq
theorem qb2 {l:List (List UInt8)} {i:Nat} (h:i < l.length):nth (stA l) (i * 1) = some (.str (gB l i)) :=by
 rw [qfx,Nat.mul_one]
 unfold stA gB
 rw [List.getElem?_map,List.getElem?_eq_getElem h]
 simp [List.getD,h]
end
end Go.Abs.Seat
namespace Go.Abs.Seat
noncomputable section
open Go Go.Abs Go.Proofs.Tryz
set_option maxRecDepth 100000
set_option maxHeartbeats 40000000
attribute [local irreducible] pEq qco IntKind.wrap
theorem takN:∀ (n:Nat) (l:List AV),n ≤ l.length → qfe n l = some (l.take n)
 | 0,l,_ => by cases l <;> rfl
 |n + 1,[],h => absurd h (Nat.not_succ_le_zero _)
 |n + 1,x :: r,h => by
  have :=takN n r (Nat.le_of_succ_le_succ h)
  simp only [qfe,this,List.take_succ_cons]
theorem drpN:∀ (n:Nat) (l:List AV),qgo n l = l.drop n
 | 0,l => by cases l <;> rfl
 |n + 1,[] => rfl
 |n + 1,x :: r => drpN n r
theorem qiy {T:Tr TypeInfo} {t e:TypeId} {inf:TypeInfo} {L:List (List UInt8)} {k1 k2:IntKind} {x y:Int} {a n:Nat} (hT:tyU T t = some (.slice e)) (hi:T.get e = some inf) (h1:inf.size = 1) (hx:x = Int.ofNat a) (hy:y = Int.ofNat (a + n)) (hb:a + n ≤ L.length):qco T t (.lst (stA L) L.length .no) (some (.int k1 x)) (some (.int k2 y)) = .chk true (.ret (.lst (stA ((L.drop a).take n)) n .no)) :=by
 subst hx hy
 unfold qco
 rw [hT]
 have e1:bnd (some (.int k2 (Int.ofNat (a + n)))) L.length L.length = some (a + n) :=by
  have z1:decide ((0:Int) ≤ Int.ofNat (a + n)) = true :=decide_eq_true (Int.natCast_nonneg _)
  have z2:decide (Int.ofNat (a + n) ≤ (L.length:Int)) = true :=decide_eq_true (Int.ofNat_le.2 hb)
  simp only [bnd]
  show (match decide ((0:Int) ≤ Int.ofNat (a + n)) && decide (Int.ofNat (a + n) ≤ (L.length:Int)) with | true => some (Int.ofNat (a + n)).toNat | false => none) = some (a + n)
  rw [z1,z2];rfl
 have e2:bnd (some (.int k1 (Int.ofNat a))) 0 (a + n) = some a :=by
  have z1:decide ((0:Int) ≤ Int.ofNat a) = true :=decide_eq_true (Int.natCast_nonneg _)
  have z2:decide (Int.ofNat a ≤ ((a + n:Nat):Int)) = true :=decide_eq_true (Int.ofNat_le.2 (Nat.le_add_right _ _))
  simp only [bnd]
  show (match decide ((0:Int) ≤ Int.ofNat a) && decide (Int.ofNat a ≤ ((a + n:Nat):Int)) with | true => some (Int.ofNat a).toNat | false => none) = some a
  rw [z1,z2];rfl
 have e3:decide (a * inf.size ≤ (stA L).length) = true :=decide_eq_true (by rw [h1,qfu];omega)
 have e4:qfe (n * inf.size) (qgo (a * inf.size) (stA L)) = some (stA ((L.drop a).take n)) :=by
  rw [h1,Nat.mul_one,Nat.mul_one,drpN,takN _ _ (by rw [List.length_drop,qfu];omega)]
  unfold stA
  rw [← List.map_drop,← List.map_take]
 simp only [hi,e1,e2,e3,e4,Nat.add_sub_cancel_left]
theorem qck (L:List (List UInt8)) {a n i:Nat} (h:a + n ≤ L.length) (hi:i < n):nth (stA ((L.drop a).take n)) (i * 1) = some (.str (gB L (i + a))) :=by
 have l1:i < ((L.drop a).take n).length :=by rw [List.length_take,List.length_drop];omega
 rw [qb2 l1]
 have e:gB ((L.drop a).take n) i = gB L (i + a) :=by
  simp only [gB,List.getD_eq_getElem?_getD]
  rw [List.getElem?_take_of_lt hi,List.getElem?_drop,Nat.add_comm]
 rw [e]
theorem qc7 (c:UInt8) (s:List UInt8):(spl c s).length ≤ s.length + 1 :=by
 rw [qmc]
 exact Nat.succ_le_succ List.count_le_length
theorem qhz (H:List Nat) {i:Nat} (h:i ≤ H.length):qen (ivs (zl (H.take i))) (i * 1) = true :=by
 have :=qe1 (ivs (zl (H.take i)))
 rw [ivs_len,qcd,List.length_take,Nat.min_eq_left h] at this
 rwa [Nat.mul_one]
end
end Go.Abs.Seat
namespace Go.Abs.Seat
noncomputable section
open Go Go.Abs Go.Proofs.Tryz
set_option maxRecDepth 100000
set_option maxHeartbeats 40000000
attribute [local irreducible] IntKind.wrap pEq qco
theorem qqw (c:UInt8):∀ u,(∀ b,b ∈ u → b ≠ c) → spl c u = [u]
 | [],_ => rfl
 |b :: r,h => by rw [spl,if_neg (h b (List.mem_cons_self ..)),qqw c r fun x hx => h x (List.mem_cons_of_mem _ hx)]
theorem qnw (c:UInt8) (v:List UInt8):∀ u,(∀ b,b ∈ u → b ≠ c) → spl c (u ++ c :: v) = u :: spl c v
 | [],_ => by rw [List.nil_append,spl,if_pos rfl]
 |b :: r,h => by rw [List.cons_append,spl,if_neg (h b (List.mem_cons_self ..)),qnw c v r fun x hx => h x (List.mem_cons_of_mem _ hx)]
def frB (c:UInt8) (s:List UInt8):Nat → Nat
 | 0 => 0
 |i + 1 => if s.getD i 0 = c then i + 1 else frB c s i
def ptB (c:UInt8) (s:List UInt8):Nat → List (List UInt8)
 | 0 => []
 |i + 1 => if s.getD i 0 = c then ptB c s i ++ [(s.drop (frB c s i)).take (i - frB c s i)] else ptB c s i
theorem qoz (c:UInt8) (s:List UInt8):∀ i,frB c s i ≤ i
 | 0 => Nat.le_refl _
 |i + 1 => by
  have :=qoz c s i
  rw [frB]
  split <;> omega
theorem qq7 (c:UInt8) (s:List UInt8):∀ i,(ptB c s i).length ≤ i
 | 0 => Nat.le_refl _
 |i + 1 => by
  have :=qq7 c s i
  rw [ptB]
  split
  ·rw [List.length_append,List.length_singleton];omega
  ·omega
theorem qv1 (c:UInt8) (s:List UInt8):∀ i,i ≤ s.length → spl c s = ptB c s i ++ spl c (s.drop (frB c s i)) ∧ ∀ b,b ∈ (s.drop (frB c s i)).take (i - frB c s i) → b ≠ c
 | 0,_ => ⟨rfl,fun b h => by simp at h⟩
 |i + 1,hi => by
  obtain ⟨h1,h2⟩ :=qv1 c s i (by omega)
  have hf :=qoz c s i
  have hlt:i < s.length :=hi
  have hg:s.getD i 0 = s[i] :=by simp [List.getD,hlt]
  have e1:s.drop (frB c s i) = (s.drop (frB c s i)).take (i - frB c s i) ++ s[i] :: s.drop (i + 1) :=by
   rw [← List.drop_eq_getElem_cons hlt]
   have :=(List.take_append_drop (i - frB c s i) (s.drop (frB c s i))).symm
   rw [List.drop_drop,show frB c s i + (i - frB c s i) = i by omega] at this
   exact this
  by_cases e:s.getD i 0 = c
  ·rw [frB,ptB,if_pos e,if_pos e]
   refine ⟨?_,fun b h => by simp at h⟩
   have k :=qnw c (s.drop (i + 1)) _ h2
   rw [hg] at e
   rw [e] at e1
   rw [← e1] at k
   rw [h1,k,List.append_assoc];rfl
  ·rw [frB,ptB,if_neg e,if_neg e]
   refine ⟨h1,fun b hb => ?_⟩
   rw [e1,show i + 1 - frB c s i = (i - frB c s i) + 1 by omega,List.take_append,List.length_take,List.length_drop] at hb
   rcases List.mem_append.1 hb with hb | hb
   ·exact h2 b (List.mem_of_mem_take hb)
   ·rw [show i - frB c s i + 1 - min (i - frB c s i) (s.length - frB c s i) = 1 by omega] at hb
    have hb:b ∈ [s[i]] :=hb
    rw [List.mem_singleton.1 hb,← hg];exact e
theorem qv2 (c:UInt8) (s:List UInt8):spl c s = ptB c s s.length ++ [s.drop (frB c s s.length)] :=by
 obtain ⟨h1,h2⟩ :=qv1 c s s.length (Nat.le_refl _)
 have hf :=qoz c s s.length
 rw [List.take_of_length_le (by rw [List.length_drop];exact Nat.le_refl _)] at h2
 exact h1.trans (by rw [qqw c _ h2])
theorem qqv (l:List (List UInt8)) (x:List UInt8):stA l ++ [.str x] = stA (l ++ [x]) :=by
 unfold stA
 rw [List.map_append];rfl
theorem qwm {l:List (List UInt8)} {k c n:Nat} (hc:c + 1 ≤ n):bd (.lst (stA l) k (.ch c)) ≤ n :=Nat.max_le.2 ⟨hc,qc1 (qbs l)⟩
theorem qvu {xs ys:List AV} {n m c:Nat} (e:AV.lst xs n (.ch c) = .lst ys m (.ch c)):Wk (.lst xs n (.ch c)) (.lst ys m .no) :=by
 cases e
 exact (WkV.own _ _ _).wk
theorem qon {l:List (List UInt8)}:qen (stA l) (l.length * 1) = true :=by
 rw [Nat.mul_one,← qfu]
 exact qe1 _
theorem qtq (a b:UInt8):((Int.ofNat a.toNat) == (Int.ofNat b.toNat)) = decide (a = b) :=by
 by_cases h:a = b
 ·rw [decide_eq_true h,h];exact beq_self_eq_true _
 ·rw [decide_eq_false h]
  exact beq_eq_false_iff_ne.2 fun z => h (UInt8.toNat_inj.1 (Int.ofNat.inj z))
end
end Go.Abs.Seat
namespace Go.Abs.Seat
noncomputable section
open Go Go.Abs Go.Proofs.Tryz
set_option maxRecDepth 100000
set_option maxHeartbeats 40000000
attribute [local irreducible] pEq qco IntKind.wrap
theorem qzp:∀ n,n < 100 → ∀ x,x ∈ dec n → 48 ≤ x.toNat ∧ x.toNat ≤ 57 :=by decide +kernel
theorem qs1 {n:Nat} (h:n < 100) {c:UInt8} (hc:c = 10 ∨ c = 32):∀ b,b ∈ dec n → b ≠ c :=fun b hb e => by
 have :=qzp n h b hb
 rw [e] at this
 rcases hc with rfl | rfl
 ·exact absurd this.1 (by decide)
 ·exact absurd this.1 (by decide)
theorem qil {a b:List UInt8} {c:UInt8} (ha:∀ x,x ∈ a → x ≠ c) (hb:∀ x,x ∈ b → x ≠ c):∀ x,x ∈ a ++ b → x ≠ c :=fun x hx => (List.mem_append.1 hx).elim (ha x) (hb x)
theorem qyz {l:List (List UInt8)} (h:∀ w,w ∈ l → ∀ b,b ∈ w → b ≠ 10) (x:List UInt8):∀ i,i ≤ l.length → spl 10 (ouB l i ++ x) = l.take i ++ spl 10 x :=by
 intro i
 induction i generalizing x with
 |zero => intro _;rfl
 |succ i ih =>
  intro hi
  have hlt:i < l.length :=hi
  have e:gB l i = l[i] :=by simp [gB,List.getD,hlt]
  rw [ouB,List.append_assoc,List.append_assoc,ih _ (by omega)]
  show _ ++ spl 10 (gB l i ++ 10 :: x) = _
  rw [qnw 10 x (gB l i) (h _ (by rw [e];exact List.getElem_mem hlt)),List.take_succ_eq_append_getElem hlt,e,List.append_assoc]
  rfl
def endL (c:Nat):List UInt8 :=[101,110,100,32] ++ (dec (c / 100) ++ (dec (c / 10 % 10) ++ dec (c % 10)))
theorem qwb (o:List UInt8) (c:Nat):finB o c = o ++ (endL c ++ [10]) :=by
 unfold finB endL
 simp only [List.append_assoc]
theorem qx6 {c:Nat} (h:c < 1000):∀ x,x ∈ endL c → x ≠ 10 :=qil (by decide) (qil (qs1 (by omega) (.inl rfl)) (qil (qs1 (by omega) (.inl rfl)) (qs1 (by omega) (.inl rfl))))
theorem qlu {l r:List (List UInt8)} {i:Nat} (h:i < l.length):gB (l ++ r) i = gB l i :=by
 simp only [gB,List.getD_eq_getElem?_getD,List.getElem?_append_left h]
theorem qsq {α:Type} (P:Nat → α → Prop) (d:α):∀ n,(∃ l:List α,l.length = n ∧ ∀ i,i < n → P i (l.getD i d)) ∨ ∃ l:List α,l.length < n ∧ (∀ i,i < l.length → P i (l.getD i d)) ∧ ¬ ∃ a,P l.length a
 | 0 => .inl ⟨[],rfl,fun i h => absurd h (Nat.not_lt_zero _)⟩
 |n + 1 => by
  rcases qsq P d n with ⟨l,hl,h⟩ | ⟨l,hl,h,hb⟩
  ·by_cases k:∃ a,P n a
   ·obtain ⟨a,ha⟩ :=k
    refine .inl ⟨l ++ [a],by rw [List.length_append,hl];rfl,fun i hi => ?_⟩
    by_cases e:i < n
    ·have:(l ++ [a]).getD i d = l.getD i d :=by
      simp only [List.getD_eq_getElem?_getD]
      rw [List.getElem?_append_left (by omega)]
     rw [this]
     exact h i e
    ·have e2:i = n :=by omega
     have:(l ++ [a]).getD i d = a :=by
      simp only [List.getD_eq_getElem?_getD]
      rw [List.getElem?_append_right (by omega),e2,hl,Nat.sub_self]
      rfl
     rw [this,e2]
     exact ha
   ·exact .inr ⟨l,by omega,by rw [hl];exact h,by rw [hl];exact k⟩
  ·exact .inr ⟨l,by omega,h,hb⟩
end
end Go.Abs.Seat
namespace Go.Abs.Seat
noncomputable section
open Go Go.Abs
set_option maxRecDepth 100000
set_option maxHeartbeats 40000000

def lnW:List UInt8 → List Nat → List UInt8
 |w,[] => w
 |w,n :: r => lnW (w ++ ([32] ++ dec n)) r
theorem qm3:∀ (l r:List Nat) (w:List UInt8),lnW w (l ++ r) = lnW (lnW w l) r
 | [],_,_ => rfl
 | _ :: l,r,_ => qm3 l r _
theorem qhy (w:List UInt8) (l:List Nat) {i:Nat} (h:i < l.length):lnW w (l.take (i + 1)) = lnW w (l.take i) ++ ([32] ++ dec (gn l i)) :=by
 rw [ql9 l h,qm3];rfl
theorem qs2:∀ n,n < 1000 → ∀ x,x ∈ dec n → 48 ≤ x.toNat ∧ x.toNat ≤ 57 :=by decide +kernel
theorem qs0 {n:Nat} (h:n < 1000) {c:UInt8} (hc:c = 10 ∨ c = 32):∀ b,b ∈ dec n → b ≠ c :=fun b hb e => by
 have :=qs2 n h b hb
 rw [e] at this
 rcases hc with rfl | rfl
 ·exact absurd this.1 (by decide)
 ·exact absurd this.1 (by decide)
def valD (l:List UInt8):Nat :=l.foldl (fun n b => 10 * n + (b.toNat - 48)) 0
theorem qey:∀ n,n < 1000 → valD (dec n) = n :=by decide +kernel
theorem qeb {a b:Nat} (ha:a < 1000) (hb:b < 1000) (e:dec a = dec b):a = b :=by
 rw [← qey a ha,← qey b hb,e]
theorem qol:∀ (l:List Nat) (w:List UInt8),(∀ n,n ∈ l → n < 1000) → (∀ x,x ∈ w → x ≠ 10) → ∀ x,x ∈ lnW w l → x ≠ 10
 | [],_,_,hw => hw
 |n :: r,w,h,hw => qol r _ (fun m hm => h m (List.mem_cons_of_mem _ hm)) (qil hw (qil (by decide) (qs0 (h n (List.mem_cons_self ..)) (.inl rfl))))
theorem qmd (c:UInt8) (v:List UInt8) (hv:∀ b,b ∈ v → b ≠ c):∀ u,spl c (u ++ c :: v) = spl c u ++ [v]
 | [] => by
  show spl c (c :: v) = [[]] ++ [v]
  rw [show spl c (c :: v) = [] :: spl c v from if_pos rfl,qqw c v hv];rfl
 |b :: r => by
  have ih :=qmd c v hv r
  rw [List.cons_append,spl,spl]
  by_cases e:b = c
  ·rw [if_pos e,if_pos e,ih];rfl
  ·rw [if_neg e,if_neg e,ih]
   cases f:spl c r with
   |nil => exact absurd f (qgf c r)
   |cons x t => rfl
theorem qks:∀ (l:List Nat) (w:List UInt8),(∀ n,n ∈ l → n < 1000) → spl 32 (lnW w l) = spl 32 w ++ l.map dec
 | [],w,_ => by rw [lnW,List.map_nil,List.append_nil]
 |n :: r,w,h => by
  rw [lnW,qks r _ fun m hm => h m (List.mem_cons_of_mem _ hm)]
  have k :=qmd 32 (dec n) (qs0 (h n (List.mem_cons_self ..)) (.inr rfl)) w
  rw [show w ++ ([32] ++ dec n) = w ++ 32 :: dec n from rfl,k,List.append_assoc]
  rfl
def qh6:List UInt8 :=[114,117,108,101]
def qct:List UInt8 :=[110,101,118,101,114]
def qdj:List UInt8 :=[116,114,97,105,110]
def qc9 (s:Nat):List UInt8 :=if s = 1 then [97,110,121] else if s = 2 then [115,97,109,101] else [111,116,104,101,114]
theorem qk9 (s:Nat) {c:UInt8} (hc:c = 10 ∨ c = 32):∀ x,x ∈ qc9 s → x ≠ c :=by
 unfold qc9
 rcases hc with rfl | rfl
 ·split
  ·decide
  ·split <;> decide
 ·split
  ·decide
  ·split <;> decide
theorem qg0 {a b:Nat} (ha:1 ≤ a ∧ a ≤ 3) (hb:1 ≤ b ∧ b ≤ 3) (e:qc9 a = qc9 b):a = b :=by
 have h1:a = 1 ∨ a = 2 ∨ a = 3 :=by omega
 have h2:b = 1 ∨ b = 2 ∨ b = 3 :=by omega
 rcases h1 with rfl|rfl|rfl <;> rcases h2 with rfl|rfl|rfl <;> first|rfl|exact absurd e (by decide)
abbrev TrR :=Nat × Nat × Nat × Nat
def lnR (r:TrR):List UInt8 :=lnW qh6 [r.1,r.2.1,r.2.2.1] ++ ([32] ++ qc9 r.2.2.2)
def flN:List (Nat × Nat) → List Nat
 | [] => []
 |p :: r => p.1 :: p.2 :: flN r
def lnT (t:List (Nat × Nat)):List UInt8 :=lnW qdj (flN t)
def lnsT (r:TrR) (V:List Nat) (T:List (List (Nat × Nat))):List (List UInt8) :=lnR r :: lnW qct V :: T.map lnT
def prtT (r:TrR) (V:List Nat) (T:List (List (Nat × Nat))):List UInt8 :=finB (ouB (lnsT r V T) (lnsT r V T).length) (ckN (lnsT r V T) (lnsT r V T).length % 109)
def okR (r:TrR) (V:List Nat) (T:List (List (Nat × Nat))):Prop :=((r.1 < 1000 ∧ r.2.1 < 1000 ∧ r.2.2.1 < 1000) ∧ 1 ≤ r.2.2.2 ∧ r.2.2.2 ≤ 3) ∧ (∀ n,n ∈ V → n < 1000) ∧ ∀ t,t ∈ T → ∀ n,n ∈ flN t → n < 1000
theorem qud {r:TrR} (h:r.1 < 1000 ∧ r.2.1 < 1000 ∧ r.2.2.1 < 1000):∀ n,n ∈ [r.1,r.2.1,r.2.2.1] → n < 1000 :=by
 intro n hn
 simp only [List.mem_cons,List.not_mem_nil,or_false] at hn
 rcases hn with rfl | rfl | rfl
 ·exact h.1
 ·exact h.2.1
 ·exact h.2.2
theorem qxs {r:TrR} {V:List Nat} {T:List (List (Nat × Nat))} (h:okR r V T):∀ w,w ∈ lnsT r V T → ∀ b,b ∈ w → b ≠ 10 :=by
 intro w hw
 rcases List.mem_cons.1 hw with rfl | hw
 ·exact qil (qol _ _ (qud h.1.1) (by decide)) (qil (by decide) (qk9 _ (.inl rfl)))
 ·rcases List.mem_cons.1 hw with rfl | hw
  ·exact qol _ _ h.2.1 (by decide)
  ·obtain ⟨t,ht,rfl⟩ :=List.mem_map.1 hw
   exact qol _ _ (h.2.2 t ht) (by decide)
theorem qkb {r:TrR} {V:List Nat} {T:List (List (Nat × Nat))} (h:okR r V T):spl 10 (prtT r V T) = lnsT r V T ++ [endL (ckN (lnsT r V T) (lnsT r V T).length % 109),[]] :=by
 unfold prtT
 rw [qwb,qyz (qxs h) _ _ (Nat.le_refl _),List.take_length]
 have k :=qnw 10 [] (endL (ckN (lnsT r V T) (lnsT r V T).length % 109)) (qx6 (by omega))
 rw [k]
 rfl
theorem qgl {r:TrR} (h:r.1 < 1000 ∧ r.2.1 < 1000 ∧ r.2.2.1 < 1000):spl 32 (lnR r) = [qh6,dec r.1,dec r.2.1,dec r.2.2.1,qc9 r.2.2.2] :=by
 unfold lnR
 have k :=qmd 32 (qc9 r.2.2.2) (qk9 _ (.inr rfl)) (lnW qh6 [r.1,r.2.1,r.2.2.1])
 rw [qks _ _ (qud h)] at k
 exact k
theorem qgk {V:List Nat} (h:∀ n,n ∈ V → n < 1000):spl 32 (lnW qct V) = qct :: V.map dec :=by
 rw [qks _ _ h];rfl
theorem qg7 {t:List (Nat × Nat)} (h:∀ n,n ∈ flN t → n < 1000):spl 32 (lnT t) = qdj :: (flN t).map dec :=by
 unfold lnT
 rw [qks _ _ h];rfl
theorem qdc:∀ {l l':List Nat},(∀ n,n ∈ l → n < 1000) → (∀ n,n ∈ l' → n < 1000) → l.map dec = l'.map dec → l = l'
 | [],[],_,_,_ => rfl
 | [],_ :: _,_,_,h => nomatch h
 | _ :: _,[],_,_,h => nomatch h
 |x :: l,y :: l',h1,h2,h => by
  have a:dec x = dec y :=(List.cons.inj h).1
  have b:l.map dec = l'.map dec :=(List.cons.inj h).2
  rw [qeb (h1 x (List.mem_cons_self ..)) (h2 y (List.mem_cons_self ..)) a,qdc (fun n hn => h1 n (List.mem_cons_of_mem _ hn)) (fun n hn => h2 n (List.mem_cons_of_mem _ hn)) b]
theorem qkx:∀ {s t:List (Nat × Nat)},flN s = flN t → s = t
 | [],[],_ => rfl
 | [],_ :: _,h => nomatch h
 | _ :: _,[],h => nomatch h
 |p :: s,q :: t,h => by
  have a:p.1 = q.1 :=(List.cons.inj h).1
  have h2 :=(List.cons.inj h).2
  have b:p.2 = q.2 :=(List.cons.inj h2).1
  have c:flN s = flN t :=(List.cons.inj h2).2
  rw [qkx c,show p = q from Prod.ext a b]
theorem quq {r r':TrR} {V V':List Nat} {T T':List (List (Nat × Nat))} (h:okR r V T) (h':okR r' V' T') (e:lnsT r V T = lnsT r' V' T'):r = r' ∧ V = V' ∧ T = T' :=by
 have e1:lnR r = lnR r' :=(List.cons.inj e).1
 have e2 :=(List.cons.inj e).2
 have e3:lnW qct V = lnW qct V' :=(List.cons.inj e2).1
 have e4:T.map lnT = T'.map lnT :=(List.cons.inj e2).2
 refine ⟨?_,?_,?_⟩
 ·have k :=congrArg (spl 32) e1
  rw [qgl h.1.1,qgl h'.1.1] at k
  simp only [List.cons.injEq,and_true,true_and] at k
  have a :=qeb h.1.1.1 h'.1.1.1 k.1
  have b :=qeb h.1.1.2.1 h'.1.1.2.1 k.2.1
  have c :=qeb h.1.1.2.2 h'.1.1.2.2 k.2.2.1
  have d :=qg0 h.1.2 h'.1.2 k.2.2.2
  exact Prod.ext a (Prod.ext b (Prod.ext c d))
 ·have k :=congrArg (spl 32) e3
  rw [qgk h.2.1,qgk h'.2.1] at k
  exact qdc h.2.1 h'.2.1 (List.cons.inj k).2
 ·have key:∀ (A B:List (List (Nat × Nat))),(∀ t,t ∈ A → ∀ n,n ∈ flN t → n < 1000) → (∀ t,t ∈ B → ∀ n,n ∈ flN t → n < 1000) → A.map lnT = B.map lnT → A = B :=by
   intro A
   induction A with
   |nil =>
    intro B _ _ q
    cases B with
    |nil => rfl
    |cons y B => cases q
   |cons x A ih =>
    intro B ha hb q
    cases B with
    |nil => cases q
    |cons y B =>
     have q1:lnT x = lnT y :=(List.cons.inj q).1
     have q2:A.map lnT = B.map lnT :=(List.cons.inj q).2
     have k :=congrArg (spl 32) q1
     rw [qg7 (ha x (List.mem_cons_self ..)),qg7 (hb y (List.mem_cons_self ..))] at k
     have k2 :=qkx (qdc (ha x (List.mem_cons_self ..)) (hb y (List.mem_cons_self ..)) (List.cons.inj k).2)
     rw [k2,ih B (fun t ht => ha t (List.mem_cons_of_mem _ ht)) (fun t ht => hb t (List.mem_cons_of_mem _ ht)) q2]
  exact key T T' h.2.2 h'.2.2 e4
theorem qn4 {r r':TrR} {V V':List Nat} {T T':List (List (Nat × Nat))} (h:okR r V T) (h':okR r' V' T') (e:prtT r V T = prtT r' V' T'):r = r' ∧ V = V' ∧ T = T' :=by
 have k :=congrArg (spl 10) e
 rw [qkb h,qkb h'] at k
 have hl:(lnsT r V T).length = (lnsT r' V' T').length :=by
  have :=congrArg List.length k
  rw [List.length_append,List.length_append] at this
  exact Nat.add_right_cancel this
 exact quq h h' (List.append_inj k hl).1
def isU (s:List UInt8) (r:TrR) (V:List Nat) (T:List (List (Nat × Nat))):Prop :=okR r V T ∧ prtT r V T = s
theorem qfz:∀ (l:List Nat) (w:List UInt8),(lnW w l).length ≤ w.length + 4 * l.length
 | [],_ => Nat.le_refl _
 |n :: r,w => by
  have k :=qfz r (w ++ ([32] ++ dec n))
  have s :=qfv n
  rw [List.length_append] at k
  rw [lnW,List.length_cons]
  omega
theorem qbi:∀ t:List (Nat × Nat),(flN t).length = 2 * t.length
 | [] => rfl
 |p :: r => by
  have :=qbi r
  show (flN r).length + 1 + 1 = 2 * (r.length + 1)
  omega
theorem qm4 (r:TrR):(lnR r).length ≤ 22 :=by
 have k :=qfz [r.1,r.2.1,r.2.2.1] qh6
 have s:(qc9 r.2.2.2).length ≤ 5 :=by
  unfold qc9
  split
  ·decide
  ·split <;> decide
 have e:qh6.length + 4 * [r.1,r.2.1,r.2.2.1].length = 16 :=rfl
 unfold lnR
 rw [List.length_append,List.length_append]
 show _ + (1 + _) ≤ 22
 omega
theorem qdh (r:TrR) (V:List Nat) (T:List (List (Nat × Nat))):(lnsT r V T).length = T.length + 2 :=by
 unfold lnsT
 rw [List.length_cons,List.length_cons,List.length_map]
theorem qoj {r:TrR} {V:List Nat} {T:List (List (Nat × Nat))} (hV:V.length ≤ 6) (hT:∀ t,t ∈ T → t.length ≤ 3):∀ i,(ouB (lnsT r V T) i).length ≤ i * 30
 | 0 => Nat.le_refl _
 |i + 1 => by
  have k :=qoj (r :=r) hV hT i
  have g:(gB (lnsT r V T) i).length ≤ 29 :=by
   by_cases q:i < (lnsT r V T).length
   ·have e:gB (lnsT r V T) i = (lnsT r V T)[i] :=by simp [gB,List.getD,q]
    rw [e]
    have hw :=List.getElem_mem q
    generalize (lnsT r V T)[i] = w at hw
    rcases List.mem_cons.1 hw with rfl | hw
    ·exact Nat.le_trans (qm4 r) (by decide)
    ·rcases List.mem_cons.1 hw with rfl | hw
     ·have k :=qfz V qct
      have e:qct.length = 5 :=rfl
      omega
     ·obtain ⟨t,ht,rfl⟩ :=List.mem_map.1 hw
      have k :=qfz (flN t) qdj
      have e:qdj.length = 5 :=rfl
      have :=hT t ht
      rw [qbi] at k
      unfold lnT
      omega
   ·have e:gB (lnsT r V T) i = [] :=by simp [gB,List.getD,q]
    rw [e];exact Nat.zero_le _
  rw [ouB,List.length_append,List.length_append]
  show _ + (_ + 1) ≤ (i + 1) * 30
  omega
theorem qva (c:Nat):(endL c).length ≤ 13 :=by
 have d1 :=qb8 (c / 100)
 have d2 :=qb8 (c / 10 % 10)
 have d3 :=qb8 (c % 10)
 unfold endL
 rw [List.length_append,List.length_append,List.length_append]
 show 4 + (_ + (_ + _)) ≤ 13
 omega
theorem qxc {r:TrR} {V:List Nat} {T:List (List (Nat × Nat))} (hV:V.length ≤ 6) (hT:∀ t,t ∈ T → t.length ≤ 3) (hl:T.length ≤ 4):(prtT r V T).length ≤ 400 :=by
 have k :=qoj (r :=r) hV hT (lnsT r V T).length
 have k2 :=qdh r V T
 have k3 :=qva (ckN (lnsT r V T) (lnsT r V T).length % 109)
 have k4:(lnsT r V T).length * 30 ≤ 6 * 30 :=Nat.mul_le_mul_right 30 (by omega)
 unfold prtT
 rw [qwb,List.length_append,List.length_append]
 show _ + (_ + 1) ≤ 400
 omega
theorem qtm (l:List UInt8) (b:UInt8):valD (l ++ [b]) = 10 * valD l + (b.toNat - 48) :=by
 unfold valD
 rw [List.foldl_append];rfl
theorem qlb (w:List UInt8) {i:Nat} (h:i < w.length):valD (w.take (i + 1)) = 10 * valD (w.take i) + ((w.getD i 0).toNat - 48) :=by
 have e:w.getD i 0 = w[i] :=by simp [List.getD,h]
 rw [List.take_succ_eq_append_getElem h,qtm,e]
def digB (b:UInt8):Prop :=48 ≤ b.toNat ∧ b.toNat ≤ 57
theorem ql5 {w:List UInt8} (h:∀ b,b ∈ w → digB b):w.length ≤ 3 → valD w < 1000 :=by
 intro hl
 rcases w with _ | ⟨a,_ | ⟨b,_ | ⟨c,_ | ⟨d,w⟩⟩⟩⟩
 ·exact Nat.succ_pos _
 ·have :=h a (by simp)
  show 10 * 0 + (a.toNat - 48) < 1000
  unfold digB at this
  omega
 ·have h1 :=h a (by simp)
  have h2 :=h b (by simp)
  show 10 * (10 * 0 + (a.toNat - 48)) + (b.toNat - 48) < 1000
  unfold digB at h1 h2
  omega
 ·have h1 :=h a (by simp)
  have h2 :=h b (by simp)
  have h3 :=h c (by simp)
  show 10 * (10 * (10 * 0 + (a.toNat - 48)) + (b.toNat - 48)) + (c.toNat - 48) < 1000
  unfold digB at h1 h2 h3
  omega
 ·simp only [List.length_cons] at hl;omega
theorem qyb (n:Nat):dec n ≠ [] :=by
 unfold dec
 split
 ·exact fun h => nomatch h
 ·split <;> exact fun h => nomatch h
theorem qxu {w:List UInt8}:(∃ n,n < 1000 ∧ w = dec n) ↔ (∀ b,b ∈ w → digB b) ∧ w.length ≤ 3 ∧ w ≠ [] ∧ dec (valD w) = w :=by
 constructor
 ·rintro ⟨n,hn,rfl⟩
  exact ⟨qs2 n hn,qb8 n,qyb n,by rw [qey n hn]⟩
 ·rintro ⟨h1,h2,_,h4⟩
  exact ⟨valD w,ql5 h1 h2,h4.symm⟩
def prs:List Nat → List (Nat × Nat)
 |a :: b :: r => (a,b) :: prs r
 | _ => []
theorem qna:∀ l:List Nat,l.length % 2 = 0 → flN (prs l) = l
 | [],_ => rfl
 | [_],h => absurd h (by show ¬ 1 % 2 = 0;decide)
 |a :: b :: r,h => by
  have h2:r.length % 2 = 0 :=by
   simp only [List.length_cons] at h
   omega
  show a :: b :: flN (prs r) = _
  rw [qna r h2]
theorem qci:∀ t,prs (flN t) = t
 | [] => rfl
 |p :: r => by
  show (p.1,p.2) :: prs (flN r) = p :: r
  rw [qci r]
abbrev gT (T:List (List (Nat × Nat))) (i:Nat):List (Nat × Nat) :=T.getD i []
theorem qhj {T:List (List (Nat × Nat))} {i:Nat} (h:i < T.length):gT T i ∈ T :=by
 have e:gT T i = T[i] :=by simp [gT,List.getD,h]
 rw [e];exact List.getElem_mem h
structure TxT (s:List UInt8) (r:TrR) (V:List Nat) (T:List (List (Nat × Nat))):Prop where
 ok:okR r V T
 len:(spl 10 s).length = T.length + 4
 l0:gB (spl 10 s) 0 = lnR r
 l1:gB (spl 10 s) 1 = lnW qct V
 lT:∀ i,i < T.length → gB (spl 10 s) (i + 2) = lnT (gT T i)
theorem qee {s:List UInt8} {r:TrR} {V:List Nat} {T:List (List (Nat × Nat))} (h:isU s r V T):TxT s r V T :=by
 have k :=qkb h.1
 rw [h.2] at k
 have hl :=qdh r V T
 refine ⟨h.1,?_,?_,?_,fun i hi => ?_⟩
 ·rw [k,List.length_append,hl];rfl
 ·rw [k,qlu (by omega)];rfl
 ·rw [k,qlu (by omega)];rfl
 ·rw [k,qlu (by omega)]
  show gB (T.map lnT) i = _
  simp [gB,gT,List.getD,hi]
theorem qtr {s:List UInt8} {r r':TrR} {V V':List Nat} {T T':List (List (Nat × Nat))} (h:TxT s r' V' T') (o:okR r V T) (h0:spl 32 (gB (spl 10 s) 0) = [qh6,dec r.1,dec r.2.1,dec r.2.2.1,qc9 r.2.2.2]) (h1:spl 32 (gB (spl 10 s) 1) = qct :: V.map dec) (hl:(spl 10 s).length = T.length + 4) (hT:∀ i,i < T.length → spl 32 (gB (spl 10 s) (i + 2)) = qdj :: (flN (gT T i)).map dec):r = r' ∧ V = V' ∧ T = T' :=by
 refine ⟨?_,?_,?_⟩
 ·rw [h.l0,qgl h.ok.1.1] at h0
  simp only [List.cons.injEq,and_true,true_and] at h0
  have a :=qeb o.1.1.1 h.ok.1.1.1 h0.1.symm
  have b :=qeb o.1.1.2.1 h.ok.1.1.2.1 h0.2.1.symm
  have c :=qeb o.1.1.2.2 h.ok.1.1.2.2 h0.2.2.1.symm
  have d :=qg0 o.1.2 h.ok.1.2 h0.2.2.2.symm
  exact Prod.ext a (Prod.ext b (Prod.ext c d))
 ·rw [h.l1,qgk h.ok.2.1] at h1
  exact qdc o.2.1 h.ok.2.1 (List.cons.inj h1).2.symm
 ·have e:T.length = T'.length :=by have :=h.len;omega
  refine List.ext_getElem e fun i a b => ?_
  have k :=hT i a
  rw [h.lT i b,qg7 (h.ok.2.2 _ (qhj b))] at k
  have q :=qkx (qdc (o.2.2 _ (qhj a)) (h.ok.2.2 _ (qhj b)) (List.cons.inj k).2.symm)
  have g1:gT T i = T[i] :=by simp [gT,List.getD,a]
  have g2:gT T' i = T'[i] :=by simp [gT,List.getD,b]
  rw [← g1,← g2,q]
end
end Go.Abs.Seat
namespace Go.Abs.Seat
noncomputable section
open Go Go.Abs Go.Proofs.Tryz
set_option maxRecDepth 100000
set_option maxHeartbeats 40000000
attribute [local irreducible] IntKind.wrap pEq qco
theorem u8w:∀ n,n < 256 → IntKind.u8.wrap (Int.ofNat n) = Int.ofNat n :=by decide +kernel
theorem qwn {α:Type} {p:α → Bool}:∀ (s:List α) (k:Nat),s.all p = true → k < s.length → ∃ b,s[k]? = some b ∧ p b = true
 | [],_,_,h => absurd h (Nat.not_lt_zero _)
 |b :: _,0,h,_ => ⟨b,rfl,by simp at h;exact h.1⟩
 | _ :: r,k + 1,h,hk => by
  obtain ⟨b,e,q⟩ :=qwn r k (by simp at h;simpa using h.2) (Nat.lt_of_succ_lt_succ hk)
  exact ⟨b,by simpa using e,q⟩
theorem qh2 {s:List UInt8} {x:Int} {k a m:Nat} {b:UInt8} (hx:x = Int.ofNat k) (ha:a ≤ k) (hm:k < a + m) (hc:(((s.drop a).take m).all fun c => c == b) = true) (hl:Nat.ble (a + m) s.length = true):(match nthB s x.toNat with | some b => Plan.ret (.int .u8 b.toNat) | none => Plan.fail) = Plan.ret (.int .u8 b.toNat) :=by
 subst hx
 have hl :=Nat.le_of_ble_eq_true hl
 obtain ⟨c,e,q⟩ :=qwn ((s.drop a).take m) (k - a) hc (by rw [List.length_take,List.length_drop];omega)
 rw [List.getElem?_take_of_lt (by omega),List.getElem?_drop,show a + (k - a) = k by omega] at e
 have e2:nthB s (Int.ofNat k).toNat = some c :=by rw [qkp];exact e
 rw [e2,eq_of_beq q]
def lnV (n:Nat):Nat :=if n < 128 then 7 else if n < 256 then 8 else if n < 512 then 9 else 10
theorem qp5 {n:Nat} (h1:100 ≤ n) (h:n < 1000):Pure prog 141 [.int .u64 (Int.ofNat n)] (nv (lnV n)) :=by
 have c1:decide (Int.ofNat n ≥ 4294967296) = false :=decide_eq_false (by simp only [Int.ofNat_eq_natCast];omega)
 have c2:decide (Int.ofNat n ≥ 65536) = false :=decide_eq_false (by simp only [Int.ofNat_eq_natCast];omega)
 by_cases h2:n < 256
 ·have c3:decide (Int.ofNat n ≥ 256) = false :=decide_eq_false (by simp only [Int.ofNat_eq_natCast];omega)
  have w :=u8w n h2
  have i0:decide (0 ≤ IntKind.u8.wrap (Int.ofNat n)) = true :=decide_eq_true (by rw [w];exact Int.natCast_nonneg _)
  have i1:decide (IntKind.u8.wrap (Int.ofNat n) < 256) = true :=decide_eq_true (by rw [w];simp only [Int.ofNat_eq_natCast];omega)
  by_cases h3:n < 128
  ·refine qbg hE rfl (by repeat' first|exact trivial|assumption|exact qa3 _|exact fun _ h => nomatch h|apply And.intro) (by repeat' first|exact trivial|assumption|exact qa3 _|exact fun _ h => nomatch h|apply And.intro) fun S q pc hS hq hC hE => ?_
   conv => whnf
   repeat ((first|refine qa2 (qh2 (a :=100) (m :=28) (b :=7) w (by omega) (by omega) (by kernel_rfl) (by kernel_rfl)) ?_|refine qa5 ‹_› ?_|refine qa4 ‹_› ?_|refine pkT ‹_› ?_|refine qax ‹_› ?_|refine qa9 ‹_› ?_|refine qbc ‹_› ?_|refine pkF ‹_› ?_|refine qar ‹_› ?_|refine qaq hS (by kernel_rfl) ?_);conv => whnf)
   exact ⟨_,rfl,wk_i (by rw [lnV,if_pos h3];kernel_rfl)⟩
  ·refine qbg hE rfl (by repeat' first|exact trivial|assumption|exact qa3 _|exact fun _ h => nomatch h|apply And.intro) (by repeat' first|exact trivial|assumption|exact qa3 _|exact fun _ h => nomatch h|apply And.intro) fun S q pc hS hq hC hE => ?_
   conv => whnf
   repeat ((first|refine qa2 (qh2 (a :=128) (m :=128) (b :=8) w (by omega) (by omega) (by kernel_rfl) (by kernel_rfl)) ?_|refine qa5 ‹_› ?_|refine qa4 ‹_› ?_|refine pkT ‹_› ?_|refine qax ‹_› ?_|refine qa9 ‹_› ?_|refine qbc ‹_› ?_|refine pkF ‹_› ?_|refine qar ‹_› ?_|refine qaq hS (by kernel_rfl) ?_);conv => whnf)
   exact ⟨_,rfl,wk_i (by rw [lnV,if_neg h3,if_pos h2];kernel_rfl)⟩
 ·have c3:decide (Int.ofNat n ≥ 256) = true :=decide_eq_true (by simp only [Int.ofNat_eq_natCast];omega)
  have w:IntKind.u8.wrap ((Int.ofNat n).fdiv (2 ^ min (Int.toNat 8) IntKind.u64.bits)) = Int.ofNat (n / 256) :=by
   rw [show (2 ^ min (Int.toNat 8) IntKind.u64.bits:Int) = Int.ofNat 256 by decide]
   rw [show (Int.ofNat n).fdiv (Int.ofNat 256) = Int.ofNat (n / 256) from (Int.ofNat_fdiv n 256).symm]
   exact u8w (n / 256) (by omega)
  have i0:decide (0 ≤ IntKind.u8.wrap ((Int.ofNat n).fdiv (2 ^ min (Int.toNat 8) IntKind.u64.bits))) = true :=decide_eq_true (by rw [w];exact Int.natCast_nonneg _)
  have i1:decide (IntKind.u8.wrap ((Int.ofNat n).fdiv (2 ^ min (Int.toNat 8) IntKind.u64.bits)) < 256) = true :=decide_eq_true (by rw [w];simp only [Int.ofNat_eq_natCast];omega)
  by_cases h3:n < 512
  ·refine qbg hE rfl (by repeat' first|exact trivial|assumption|exact qa3 _|exact fun _ h => nomatch h|apply And.intro) (by repeat' first|exact trivial|assumption|exact qa3 _|exact fun _ h => nomatch h|apply And.intro) fun S q pc hS hq hC hE => ?_
   conv => whnf
   repeat ((first|refine qa2 (qh2 (a :=1) (m :=1) (b :=1) w (by omega) (by omega) (by kernel_rfl) (by kernel_rfl)) ?_|refine qa5 ‹_› ?_|refine qa4 ‹_› ?_|refine pkT ‹_› ?_|refine qax ‹_› ?_|refine qa9 ‹_› ?_|refine qbc ‹_› ?_|refine pkF ‹_› ?_|refine qar ‹_› ?_|refine qaq hS (by kernel_rfl) ?_);conv => whnf)
   exact ⟨_,rfl,wk_i (by rw [lnV,if_neg (by omega),if_neg h2,if_pos h3];kernel_rfl)⟩
  ·refine qbg hE rfl (by repeat' first|exact trivial|assumption|exact qa3 _|exact fun _ h => nomatch h|apply And.intro) (by repeat' first|exact trivial|assumption|exact qa3 _|exact fun _ h => nomatch h|apply And.intro) fun S q pc hS hq hC hE => ?_
   conv => whnf
   repeat ((first|refine qa2 (qh2 (a :=2) (m :=2) (b :=2) w (by omega) (by omega) (by kernel_rfl) (by kernel_rfl)) ?_|refine qa5 ‹_› ?_|refine qa4 ‹_› ?_|refine pkT ‹_› ?_|refine qax ‹_› ?_|refine qa9 ‹_› ?_|refine qbc ‹_› ?_|refine pkF ‹_› ?_|refine qar ‹_› ?_|refine qaq hS (by kernel_rfl) ?_);conv => whnf)
   exact ⟨_,rfl,wk_i (by rw [lnV,if_neg (by omega),if_neg h2,if_neg h3];kernel_rfl)⟩
theorem qy8 {n:Nat} (h:n < 512):lnV n = 7 ∨ lnV n = 8 ∨ lnV n = 9 :=by
 unfold lnV
 rw [if_pos h]
 by_cases a:n < 128
 ·rw [if_pos a];exact .inl rfl
 ·rw [if_neg a]
  by_cases b:n < 256
  ·rw [if_pos b];exact .inr (.inl rfl)
  ·rw [if_neg b];exact .inr (.inr rfl)
theorem qyd:Pure prog 142 [.bool true] (iv 1) :=by
 refine qbg hE rfl (by repeat' first|exact trivial|assumption|exact qa3 _|exact fun _ h => nomatch h|apply And.intro) (by repeat' first|exact trivial|assumption|exact qa3 _|exact fun _ h => nomatch h|apply And.intro) fun S q pc hS hq hC hE => ?_
 conv => whnf
 exact ⟨_,rfl,Wk.refl _⟩
theorem qye:Pure prog 142 [.bool false] (iv 0) :=by
 refine qbg hE rfl (by repeat' first|exact trivial|assumption|exact qa3 _|exact fun _ h => nomatch h|apply And.intro) (by repeat' first|exact trivial|assumption|exact qa3 _|exact fun _ h => nomatch h|apply And.intro) fun S q pc hS hq hC hE => ?_
 conv => whnf
 exact ⟨_,rfl,Wk.refl _⟩
theorem qvf {b:Bool} (h:b = true):Pure prog 142 [.bool b] (iv 1) :=by subst h;exact qyd
theorem qvg {b:Bool} (h:b = false):Pure prog 142 [.bool b] (iv 0) :=by subst h;exact qye
theorem qy6 {m:Nat} (h:m = 7 ∨ m = 8 ∨ m = 9):Pure prog 140 [nv m] (iv 2) :=by
 rcases h with rfl | rfl | rfl
 all_goals
  refine qbg hE rfl (by repeat' first|exact trivial|assumption|exact qa3 _|exact fun _ h => nomatch h|apply And.intro) (by repeat' first|exact trivial|assumption|exact qa3 _|exact fun _ h => nomatch h|apply And.intro) fun S q pc hS hq hC hE => ?_
  conv => whnf
  exact ⟨_,rfl,wk_i (by kernel_rfl)⟩
theorem qy7:Pure prog 140 [nv 10] (iv 3) :=by
 refine qbg hE rfl (by repeat' first|exact trivial|assumption|exact qa3 _|exact fun _ h => nomatch h|apply And.intro) (by repeat' first|exact trivial|assumption|exact qa3 _|exact fun _ h => nomatch h|apply And.intro) fun S q pc hS hq hC hE => ?_
 conv => whnf
 exact ⟨_,rfl,wk_i (by kernel_rfl)⟩
theorem qnf {n:Nat} (h1:100 ≤ n) (h:n < 1000):Pure prog 133 [.int .u64 (Int.ofNat n)] (iv 3) :=by
 have p1 :=qp5 h1 h
 by_cases h3:n < 512
 ·have p2:Pure prog 140 [nv (lnV n)] (iv 2) :=qy6 (qy8 h3)
  have c1:decide (Int.ofNat n ≥ 100) = true :=decide_eq_true (by simp only [Int.ofNat_eq_natCast];omega)
  refine qbg hE rfl (by repeat' first|exact trivial|assumption|exact qa3 _|exact fun _ h => nomatch h|apply And.intro) (by repeat' first|exact trivial|assumption|exact qa3 _|exact fun _ h => nomatch h|apply And.intro) fun S q pc hS hq hC hE => ?_
  conv => whnf
  repeat ((first|refine qav hC (p1) ?_|refine qav hC (p2) ?_|refine qav hC (qvf c1) ?_|refine qaq hS (by kernel_rfl) ?_);conv => whnf)
  exact ⟨_,rfl,wk_i (by kernel_rfl)⟩
 ·have p2:Pure prog 140 [nv (lnV n)] (iv 3) :=by rw [show lnV n = 10 by unfold lnV;rw [if_neg (by omega),if_neg (by omega),if_neg h3]];exact qy7
  have c1:decide (Int.ofNat n ≥ 1000) = false :=decide_eq_false (by simp only [Int.ofNat_eq_natCast];omega)
  refine qbg hE rfl (by repeat' first|exact trivial|assumption|exact qa3 _|exact fun _ h => nomatch h|apply And.intro) (by repeat' first|exact trivial|assumption|exact qa3 _|exact fun _ h => nomatch h|apply And.intro) fun S q pc hS hq hC hE => ?_
  conv => whnf
  repeat ((first|refine qav hC (p1) ?_|refine qav hC (p2) ?_|refine qav hC (qvg c1) ?_|refine qaq hS (by kernel_rfl) ?_);conv => whnf)
  exact ⟨_,rfl,wk_i (by kernel_rfl)⟩
theorem qvd {n:Nat} {x:Int} (hx:x = Int.ofNat n) (h1:100 ≤ n) (h:n < 1000):Pure prog 133 [.int .u64 x] (iv 3) :=by subst hx;exact qnf h1 h
theorem u32a:∀ m,m < 1000 → IntKind.u32.wrap (IntKind.u32.wrap ((IntKind.u32.wrap (IntKind.u64.wrap (Int.ofNat m))).tmod 100 * 2) + 1) = Int.ofNat (m % 100 * 2 + 1) :=by decide +kernel
theorem u32b:∀ m,m < 1000 → IntKind.u32.wrap ((IntKind.u32.wrap (IntKind.u64.wrap (Int.ofNat m))).tmod 100 * 2) = Int.ofNat (m % 100 * 2) :=by decide +kernel
theorem qs7 {s:List UInt8} {x:Int} {k:Nat} (hx:x = Int.ofNat k) (hl:k < s.length):(match nthB s x.toNat with | some b => Plan.ret (.int .u8 b.toNat) | none => Plan.fail) = Plan.ret (.int .u8 (s.getD k 0).toNat) :=by subst hx;exact qdg hl
theorem dec3:∀ n,n < 1000 → ¬ n < 100 → [UInt8.ofNat (IntKind.u8.wrap (IntKind.u32.wrap (48 + IntKind.u32.wrap ((IntKind.u32.wrap (IntKind.u64.wrap (Int.ofNat n))).tdiv 100)))).toNat,UInt8.ofNat (((dg2.getD (n % 100 * 2) 0).toNat:Nat):Int).toNat,UInt8.ofNat (((dg2.getD (n % 100 * 2 + 1) 0).toNat:Nat):Int).toNat] = dec n :=by decide +kernel
theorem qsc {n:Nat} (h1:100 ≤ n) (h:n < 1000):Pure prog 125 [nv n,iv 10] (.str (dec n)) :=by
 have c1:decide (0 ≤ Int.ofNat n) = true :=decide_eq_true (Int.natCast_nonneg _)
 have c2:decide (Int.ofNat n < 100) = false :=decide_eq_false (by simp only [Int.ofNat_eq_natCast];omega)
 have c3:decide (Int.ofNat n < 0) = false :=decide_eq_false (by simp only [Int.ofNat_eq_natCast];omega)
 have u6:∀ m,m < 1000 → IntKind.u64.wrap (Int.ofNat m) = Int.ofNat m :=by decide +kernel
 have a1 :=u32a n h
 have a0 :=u32b n h
 have ia0:decide (0 ≤ IntKind.u32.wrap (IntKind.u32.wrap ((IntKind.u32.wrap (IntKind.u64.wrap (Int.ofNat n))).tmod 100 * 2) + 1)) = true :=decide_eq_true (by rw [a1];exact Int.natCast_nonneg _)
 have ia1:decide (IntKind.u32.wrap (IntKind.u32.wrap ((IntKind.u32.wrap (IntKind.u64.wrap (Int.ofNat n))).tmod 100 * 2) + 1) < 200) = true :=decide_eq_true (by rw [a1];simp only [Int.ofNat_eq_natCast];omega)
 have ib0:decide (0 ≤ IntKind.u32.wrap ((IntKind.u32.wrap (IntKind.u64.wrap (Int.ofNat n))).tmod 100 * 2)) = true :=decide_eq_true (by rw [a0];exact Int.natCast_nonneg _)
 have ib1:decide (IntKind.u32.wrap ((IntKind.u32.wrap (IntKind.u64.wrap (Int.ofNat n))).tmod 100 * 2) < 200) = true :=decide_eq_true (by rw [a0];simp only [Int.ofNat_eq_natCast];omega)
 have p1 :=qvd (u6 n h) h1 h
 refine qbg hE rfl (by repeat' first|exact trivial|assumption|exact qa3 _|exact fun _ h => nomatch h|apply And.intro) (by repeat' first|exact trivial|assumption|exact qa3 _|exact fun _ h => nomatch h|apply And.intro) fun S q pc hS hq hC hE => ?_
 conv => whnf
 repeat ((first|refine qa5 ‹_› ?_|refine qa4 ‹_› ?_|refine pkT ‹_› ?_|refine qax ‹_› ?_|refine qa9 ‹_› ?_|refine qbc ‹_› ?_|refine pkF ‹_› ?_|refine qar ‹_› ?_|refine qa9 (qc8 ‹_›) ?_|refine qbc (qc8 ‹_›) ?_|refine pkF (qc8 ‹_›) ?_|refine qar (qc8 ‹_›) ?_|refine qav hC (p1) ?_|refine qaq hS (by kernel_rfl) ?_);conv => whnf)
 refine qa2 (p' :=.ret (.slc 0 1 3 23)) (by kernel_rfl) ?_
 conv => whnf
 repeat ((first|refine qaq hS (by kernel_rfl) ?_);conv => whnf)
 refine qb0 hC ?_
 conv => whnf
 refine qcy hE hS ?_
 conv => whnf
 repeat ((first|refine qaq hS (by kernel_rfl) ?_);conv => whnf)
 refine qa6 hE hS ?_
 conv => whnf
 repeat ((first|refine qa2 (qs7 a1 (Nat.lt_of_lt_of_le (show n % 100 * 2 + 1 < 200 by omega) (kle rfl))) ?_|refine qa2 (qs7 a0 (Nat.lt_of_lt_of_le (show n % 100 * 2 < 200 by omega) (kle rfl))) ?_|refine qa5 ‹_› ?_|refine qa4 ‹_› ?_|refine pkT ‹_› ?_|refine qax ‹_› ?_|refine qaq hS (by kernel_rfl) ?_);conv => whnf)
 with_unfolding_all (conv => whnf)
 repeat ((first|refine qaq hS (by kernel_rfl) ?_);conv => whnf)
 with_unfolding_all (conv => whnf)
 exact ⟨_,rfl,wk_s (dec3 n h (Nat.not_lt.2 h1))⟩
theorem qcz {n:Nat} (h:n < 1000):Pure prog 83 [nv n] (.str (dec n)) :=by
 by_cases h1:n < 100
 ·exact qsb h1
 ·have p1 :=qsc (Nat.not_lt.1 h1) h
  refine qbg hE rfl (by repeat' first|exact trivial|assumption|exact qa3 _|exact fun _ h => nomatch h|apply And.intro) (by repeat' first|exact trivial|assumption|exact qa3 _|exact fun _ h => nomatch h|apply And.intro) fun S q pc hS hq hC hE => ?_
  conv => whnf
  refine qb0 hC ?_
  conv => whnf
  refine qcy hE hS ?_
  conv => whnf
  repeat ((first|refine qav hC (p1) ?_|refine qaq hS (by kernel_rfl) ?_);conv => whnf)
  exact ⟨_,rfl,Wk.refl _⟩
theorem qdf {x:Int} {m:Nat} (hx:x = Int.ofNat m) (hm:m < 1000):Pure prog 83 [iv x] (.str (dec m)) :=by subst hx;exact qcz hm
end
end Go.Abs.Seat
namespace Go.Abs.Seat
noncomputable section
open Go Go.Abs Go.Proofs.Tryz
set_option maxRecDepth 100000
set_option maxHeartbeats 40000000
attribute [local irreducible] pEq


end
end Go.Abs.Seat
namespace Go.Abs.Seat
open Go Go.Abs Go.Proofs.Tryz
set_option maxRecDepth 100000
set_option maxHeartbeats 40000000
attribute [local irreducible] IntKind.wrap pEq
def PQ (v:AV) (l:List (Int × Int)):Prop :=v = .nils ∧ l = [] ∨ v = pv l
theorem PQ.no {v:AV} {l:List (Int × Int)} (h:PQ v l):Live noL v :=by
 rcases h with ⟨rfl,_⟩ | rfl
 ·trivial
 ·exact qyv l
end Go.Abs.Seat
namespace Go.Abs.Seat
noncomputable section
open Go Go.Abs Go.Proofs.Tryz
set_option maxRecDepth 100000
set_option maxHeartbeats 40000000
attribute [local irreducible] pEq
theorem qnb (t:List (Nat × Nat)) (p:Nat × Nat):flN (t ++ [p]) = flN t ++ [p.1,p.2] :=by
 induction t with
 |nil => rfl
 |cons x r ih => show x.1 :: x.2 :: flN (r ++ [p]) = _;rw [ih];rfl
theorem qbx (t:List (Nat × Nat)) {i:Nat} (h:i < t.length):t.take (i + 1) = t.take i ++ [gq t i] :=by
 rw [List.take_succ_eq_append_getElem h]
 simp [gq,List.getD,h]
theorem qqe (l:List Nat) (a b:Nat):ivs (zl (l ++ [a,b])) = ivs (zl l) ++ [nv a,nv b] :=by
 rw [show l ++ [a,b] = (l ++ [a]) ++ [b] by simp,qqf,qqf];simp
theorem qm1 {v:AV} {l:List Int} (h:IL v l):Pure prog 171 [v] v :=by
 have lv :=h.no
 rcases h with ⟨rfl,_⟩ | rfl
 all_goals
  refine qbg hE rfl (by repeat' first|exact trivial|assumption|exact qa3 _|exact fun _ h => nomatch h|apply And.intro) (by repeat' first|exact trivial|assumption|exact qa3 _|exact fun _ h => nomatch h|apply And.intro) fun S q pc hS hq hC hE => ?_
  conv => whnf
  exact ⟨_,rfl,Wk.refl _⟩
def flV (t:List (Nat × Nat)):AV :=if t = [] then .nils else nl (zl (flN t))
theorem qwa (t:List (Nat × Nat)):IL (flV t) (zl (flN t)) :=by
 unfold flV
 split
 ·rename_i e;exact .inl ⟨rfl,by rw [e];rfl⟩
 ·exact .inr rfl
theorem qrz {L L':List Nat} {k c:Nat} (h:k = L.length) (e:L = L'):Wk (.lst (ivs (zl L)) k (.ch c)) (nl (zl L')) :=by
 subst h e
 have e2:L.length = (zl L).length :=(qcd L).symm
 rw [e2]
 exact (WkV.own _ _ _).wk
theorem qus (t:List (Nat × Nat)) {i:Nat} (h:i ≤ t.length):qen (ivs (zl (flN (t.take i)))) (i * 2 * 1) = true :=by
 have k :=qe1 (ivs (zl (flN (t.take i))))
 rw [ivs_len,qcd,qbi,List.length_take,Nat.min_eq_left h] at k
 rwa [Nat.mul_one,Nat.mul_comm]
theorem ql7 {v:AV} {t:List (Nat × Nat)} (h:PQ v (zp t)) (ht:t.length ≤ 1000):Pure prog 172 [v] (flV t) :=by
 have lv :=h.no
 have lR:Live noL (flV t) :=(qwa t).no
 rcases h with ⟨rfl,e⟩ | rfl
 ·have e2:t = [] :=List.map_eq_nil_iff.1 e
  have eR:flV t = .nils :=if_pos e2
  rw [eR]
  refine qbg hE rfl (by repeat' first|exact trivial|assumption|exact qa3 _|exact fun _ h => nomatch h|apply And.intro) (by repeat' first|exact trivial|assumption|exact qa3 _|exact fun _ h => nomatch h|apply And.intro) fun S q pc hS hq hC hE => ?_
  conv => whnf
  refine qa6 hE hS ?_
  conv => whnf
  exact ⟨_,rfl,Wk.refl _⟩
 ·by_cases h1:1 ≤ t.length
  ·have eR:flV t = nl (zl (flN t)) :=if_neg fun z => by rw [z] at h1;exact absurd h1 (by decide)
   rw [eR]
   have hz:0 < (zp t).length :=by rw [qew];exact h1
   have lF :=qby (zl (flN t))
   refine qbg hE rfl (by repeat' first|exact trivial|assumption|exact qa3 _|exact fun _ h => nomatch h|apply And.intro) (by repeat' first|exact trivial|assumption|exact qa3 _|exact fun _ h => nomatch h|apply And.intro) fun S q pc hS hq hC hE => ?_
   conv => whnf
   refine qa6 hE hS ?_
   conv => whnf
   have e1:AV.lst [nv (gq t 0).1,nv (gq t 0).2] 2 (.ch 1) = .lst (ivs (zl (flN (t.take 1)))) (1 * 2) (.ch 1) :=by rw [qbx t h1,qnb,qqe];rfl
   try have z2:=qbk hz
   try have z3:=qbf hz
   repeat ((first|refine qa2 (takP (qns t h1)) ?_|refine qa5 ‹_› ?_|refine qa4 ‹_› ?_|refine pkT ‹_› ?_|refine qax ‹_› ?_|refine qa9 ‹_› ?_|refine qbc ‹_› ?_|refine pkF ‹_› ?_|refine qar ‹_› ?_|refine qaq hS (by kernel_rfl) ?_);conv => whnf)
   refine qbh hE hS (A :=Nat) [6,7] (fun i => [(3,.lst (ivs (zl (flN (t.take i)))) (i * 2) (.ch 1)),(8,nv i)]) (fun i => [(1,.chain (i * 2) 1 3)]) (fun _ => []) (fun i => 1 ≤ i ∧ i ≤ t.length) (fun i => t.length - i) 1 (kle rfl) rfl (zhg 2) ⟨Nat.le_refl _,h1⟩ ?_
   intro i ⟨hi,hiN⟩ K hK
   obtain rfl:K = 2 :=hK
   conv => whnf
   by_cases hi2:i < t.length
   ·have hi1:IntKind.i64.wrap (Int.ofNat i + 1) = Int.ofNat (i + 1) :=qbr (m :=i + 1) (by omega)
    have hz:i < (zp t).length :=by rw [qew];exact hi2
    have d1:decide ((i * 2 + (1 + 1)) * 8 ≤ 140737488355328) = true :=decide_eq_true (by omega)
    have d2:decide (i * 2 + (1 + 1) ≤ 9223372036854775807) = true :=decide_eq_true (by omega)
    have d3:qen (ivs (zl (flN (t.take i)))) (i * 2 * 1) = true :=qus t (by omega)
    have d4:decide (i * 2 = i * 2) = true :=decide_eq_true rfl
    have e2:AV.lst (ivs (zl (flN (t.take i))) ++ [nv (gq t i).1,nv (gq t i).2]) (i * 2 + (1 + 1)) (.ch 1) = .lst (ivs (zl (flN (t.take (i + 1))))) ((i + 1) * 2) (.ch 1) :=by rw [qbx t hi2,qnb,qqe,Nat.succ_mul]
    have e3:AObj.chain (i * 2 + (1 + 1)) 1 3 = .chain ((i + 1) * 2) 1 3 :=by rw [Nat.succ_mul]
    try have z4:=qbk hz
    try have z5:=qbf hz
    repeat ((first|refine qa2 (takP (qns t hi2)) ?_|refine qa5 ‹_› ?_|refine qa4 ‹_› ?_|refine pkT ‹_› ?_|refine qax ‹_› ?_|refine qa9 ‹_› ?_|refine qbc ‹_› ?_|refine pkF ‹_› ?_|refine qar ‹_› ?_|refine qaq hS (by kernel_rfl) ?_);conv => whnf)
    exact ⟨i + 1,⟨by omega,hi2⟩,by omega,kle rfl,(zhg 2)⟩
   ·refine qar (qb9 (show ¬ i < (zp t).length by rw [qew];exact hi2)) ?_
    conv => whnf
    refine .inl ?_
    conv => whnf
    exact ⟨_,rfl,qrz (by rw [qbi,List.length_take];omega) (by rw [show i = t.length by omega,List.take_length])⟩
  ·have e2:t = [] :=List.eq_nil_of_length_eq_zero (by omega)
   have eR:flV t = .nils :=if_pos e2
   rw [eR]
   subst e2
   refine qbg hE rfl (by repeat' first|exact trivial|assumption|exact qa3 _|exact fun _ h => nomatch h|apply And.intro) (by repeat' first|exact trivial|assumption|exact qa3 _|exact fun _ h => nomatch h|apply And.intro) fun S q pc hS hq hC hE => ?_
   conv => whnf
   refine qa6 hE hS ?_
   conv => whnf
   exact ⟨_,rfl,Wk.refl _⟩
theorem qfq {L:List Nat} (h:∀ n,n ∈ L → n < 1000) {i:Nat} (hi:i < L.length):gn L i < 1000 :=h _ (by simp [gn,List.getD,hi])
theorem qjl {w:List UInt8} {L:List Nat} (hw:w.length ≤ 5) {i:Nat} (hi:i ≤ 2000):(lnW w (L.take i)).length ≤ 8005 :=by
 have k :=qfz (L.take i) w
 rw [List.length_take] at k
 have:min i L.length ≤ i :=Nat.min_le_left _ _
 omega
theorem qp3 {v:AV} {L:List Nat} (hv:IL v (zl L)) (h:∀ n,n ∈ L → n < 1000) (hl:L.length ≤ 2000):Pure prog 82 [.iface 135 v] (.str (lnW qct L)) :=by
 have lv :=hv.no
 have pn :=qm1 hv
 obtain ⟨w,ew⟩ : ∃ w,w = qct :=⟨_,rfl⟩
 have hw:w.length ≤ 5 :=by rw [ew];exact kle rfl
 rw [← ew]
 have e0:AV.str [110,101,118,101,114] = .str (lnW w (L.take 0)) :=by rw [ew];rfl
 rcases hv with ⟨rfl,e⟩ | rfl
 ·have eL:L = [] :=List.map_eq_nil_iff.1 e
  refine qbg hE rfl (by repeat' first|exact trivial|assumption|exact qa3 _|exact fun _ h => nomatch h|apply And.intro) (by repeat' first|exact trivial|assumption|exact qa3 _|exact fun _ h => nomatch h|apply And.intro) fun S q pc hS hq hC hE => ?_
  conv => whnf
  repeat ((first|refine qav hC (pn) ?_|refine qaq hS (by kernel_rfl) ?_);conv => whnf)
  refine qa6 hE hS ?_
  conv => whnf
  repeat ((first|refine qaq hS (by kernel_rfl) ?_);conv => whnf)
  exact ⟨_,rfl,wk_s (by rw [eL,ew];rfl)⟩
 ·have lL :=qby (zl L)
  refine qbg hE rfl (by repeat' first|exact trivial|assumption|exact qa3 _|exact fun _ h => nomatch h|apply And.intro) (by repeat' first|exact trivial|assumption|exact qa3 _|exact fun _ h => nomatch h|apply And.intro) fun S q pc hS hq hC hE => ?_
  conv => whnf
  repeat ((first|refine qav hC (pn) ?_|refine qaq hS (by kernel_rfl) ?_);conv => whnf)
  refine qbh hE hS (A :=Nat) [4,28,29] (fun i => [(3,.str (lnW w (L.take i))),(30,nv i)]) (fun _ => []) (fun _ => []) (fun i => i ≤ L.length) (fun i => L.length - i) 0 (kle rfl) rfl (zhg 0) (Nat.zero_le _) ?_
  intro i hi K hK
  obtain rfl:K = 0 :=hK
  conv => whnf
  by_cases hi2:i < L.length
  ·have hi1:IntKind.i64.wrap (Int.ofNat i + 1) = Int.ofNat (i + 1) :=qbr (m :=i + 1) (by omega)
   have hz:i < (zl L).length :=by rw [qcd];exact hi2
   have gr:nth (ivs (zl L)) (i * 1) = some (nv (gn L i)) :=(qbq (l :=zl L) (i :=i) hz).trans (by rw [qcf L hi2])
   have p1 :=qcz (qfq h hi2)
   have f1 :=mil (qfv (gn L i)) rfl
   have f2 :=qbv (qjl (L :=L) hw (i :=i) (by omega)) (qfv (gn L i))
   have f3 :=mil f2 rfl
   have e2:AV.str (lnW w (L.take i) ++ ([32] ++ dec (gn L i))) = .str (lnW w (L.take (i + 1))) :=by rw [qhy w L hi2]
   try have z6:=qbk hz
   try have z7:=qbf hz
   try have z8:=stOk f1
   try have z9:=stOk f3
   repeat ((first|refine qa2 (nthP gr) ?_|refine qa5 ‹_› ?_|refine qa4 ‹_› ?_|refine pkT ‹_› ?_|refine qax ‹_› ?_|refine qa9 ‹_› ?_|refine qbc ‹_› ?_|refine pkF ‹_› ?_|refine qar ‹_› ?_|refine qav hC (p1) ?_|refine qaq hS (by kernel_rfl) ?_);conv => whnf)
   exact ⟨i + 1,hi2,by omega,Nat.le_refl _,(zhg 0)⟩
  ·refine qar (qb9 (show ¬ i < (zl L).length by rw [qcd];exact hi2)) ?_
   conv => whnf
   refine .inl ?_
   conv => whnf
   have f4:(lnW w (L.take i) ++ []).length ≤ 1000000 :=by rw [List.append_nil];exact mil (qjl (L :=L) hw (by omega)) rfl
   repeat ((first|refine qa5 (stOk f4) ?_|refine qa4 (stOk f4) ?_|refine pkT (stOk f4) ?_|refine qax (stOk f4) ?_|refine qa9 (stOk f4) ?_|refine qbc (stOk f4) ?_|refine pkF (stOk f4) ?_|refine qar (stOk f4) ?_|refine qaq hS (by kernel_rfl) ?_);conv => whnf)
   exact ⟨_,rfl,wk_s (by rw [List.append_nil,show i = L.length by omega,List.take_length])⟩
theorem qp4 {v:AV} {t:List (Nat × Nat)} (hv:PQ v (zp t)) (h:∀ n,n ∈ flN t → n < 1000) (hl:t.length ≤ 1000):Pure prog 82 [.iface 137 v] (.str (lnT t)) :=by
 have lv :=hv.no
 have pn :=ql7 hv hl
 obtain ⟨w,ew⟩ : ∃ w,w = qdj :=⟨_,rfl⟩
 have hw:w.length ≤ 5 :=by rw [ew];exact kle rfl
 have hu :=qwa t
 have hl2 :=qbi t
 unfold lnT
 rw [← ew]
 obtain ⟨u,eu⟩ : ∃ u,u = flV t :=⟨_,rfl⟩
 rw [← eu] at hu pn
 obtain ⟨L,eL⟩ : ∃ L,L = flN t :=⟨_,rfl⟩
 rw [← eL] at hu h hl2 ⊢
 have e0:AV.str [116,114,97,105,110] = .str (lnW w (L.take 0)) :=by rw [ew];rfl
 rcases hu with ⟨rfl,e⟩ | rfl
 ·have eL:L = [] :=List.map_eq_nil_iff.1 e
  rcases hv with ⟨rfl,_⟩ | rfl
  all_goals
   refine qbg hE rfl (by repeat' first|exact trivial|assumption|exact qa3 _|exact fun _ h => nomatch h|apply And.intro) (by repeat' first|exact trivial|assumption|exact qa3 _|exact fun _ h => nomatch h|apply And.intro) fun S q pc hS hq hC hE => ?_
   conv => whnf
   repeat ((first|refine qav hC (pn) ?_|refine qaq hS (by kernel_rfl) ?_);conv => whnf)
   refine qa6 hE hS ?_
   conv => whnf
   repeat ((first|refine qaq hS (by kernel_rfl) ?_);conv => whnf)
   exact ⟨_,rfl,wk_s (by rw [eL,ew];rfl)⟩
 ·have lL :=qby (zl L)
  rcases hv with ⟨rfl,_⟩ | rfl
  all_goals
   refine qbg hE rfl (by repeat' first|exact trivial|assumption|exact qa3 _|exact fun _ h => nomatch h|apply And.intro) (by repeat' first|exact trivial|assumption|exact qa3 _|exact fun _ h => nomatch h|apply And.intro) fun S q pc hS hq hC hE => ?_
   conv => whnf
   repeat ((first|refine qav hC (pn) ?_|refine qaq hS (by kernel_rfl) ?_);conv => whnf)
   refine qbh hE hS (A :=Nat) [4,28,29] (fun i => [(3,.str (lnW w (L.take i))),(30,nv i)]) (fun _ => []) (fun _ => []) (fun i => i ≤ L.length) (fun i => L.length - i) 0 (kle rfl) rfl (zhg 0) (Nat.zero_le _) ?_
   intro i hi K hK
   obtain rfl:K = 0 :=hK
   conv => whnf
   by_cases hi2:i < L.length
   ·have hi1:IntKind.i64.wrap (Int.ofNat i + 1) = Int.ofNat (i + 1) :=qbr (m :=i + 1) (by omega)
    have hz:i < (zl L).length :=by rw [qcd];exact hi2
    have gr:nth (ivs (zl L)) (i * 1) = some (nv (gn L i)) :=(qbq (l :=zl L) (i :=i) hz).trans (by rw [qcf L hi2])
    have p1 :=qcz (qfq h hi2)
    have f1 :=mil (qfv (gn L i)) rfl
    have f2 :=qbv (qjl (L :=L) hw (i :=i) (by omega)) (qfv (gn L i))
    have f3 :=mil f2 rfl
    have e2:AV.str (lnW w (L.take i) ++ ([32] ++ dec (gn L i))) = .str (lnW w (L.take (i + 1))) :=by rw [qhy w L hi2]
    try have z10:=qbk hz
    try have z11:=qbf hz
    try have z12:=stOk f1
    try have z13:=stOk f3
    repeat ((first|refine qa2 (nthP gr) ?_|refine qa5 ‹_› ?_|refine qa4 ‹_› ?_|refine pkT ‹_› ?_|refine qax ‹_› ?_|refine qa9 ‹_› ?_|refine qbc ‹_› ?_|refine pkF ‹_› ?_|refine qar ‹_› ?_|refine qav hC (p1) ?_|refine qaq hS (by kernel_rfl) ?_);conv => whnf)
    exact ⟨i + 1,hi2,by omega,Nat.le_refl _,(zhg 0)⟩
   ·refine qar (qb9 (show ¬ i < (zl L).length by rw [qcd];exact hi2)) ?_
    conv => whnf
    refine .inl ?_
    conv => whnf
    have f4:(lnW w (L.take i) ++ []).length ≤ 1000000 :=by rw [List.append_nil];exact mil (qjl (L :=L) hw (by omega)) rfl
    repeat ((first|refine qa5 (stOk f4) ?_|refine qa4 (stOk f4) ?_|refine pkT (stOk f4) ?_|refine qax (stOk f4) ?_|refine qa9 (stOk f4) ?_|refine qbc (stOk f4) ?_|refine pkF (stOk f4) ?_|refine qar (stOk f4) ?_|refine qaq hS (by kernel_rfl) ?_);conv => whnf)
    exact ⟨_,rfl,wk_s (by rw [List.append_nil,show i = L.length by omega,List.take_length])⟩
theorem qcr:Pure prog 87 [] (.agg [.str [97,110,121],.str [115,97,109,101],.str [111,116,104,101,114]]) :=by
 refine qbg hE rfl (by repeat' first|exact trivial|assumption|exact qa3 _|exact fun _ h => nomatch h|apply And.intro) (by repeat' first|exact trivial|assumption|exact qa3 _|exact fun _ h => nomatch h|apply And.intro) fun S q pc hS hq hC hE => ?_
 conv => whnf
 exact ⟨_,rfl,Wk.refl _⟩
theorem qp8 {a b c s:Nat} {N:AV} {l:List Int} (hN:IL N l):Pure prog 170 [.agg [nv a,nv b,nv c,nv s,N]] (nl (zl [a,b,c])) :=by
 have lN :=hN.no
 rcases hN with ⟨rfl,_⟩ | rfl
 all_goals
  refine qbg hE rfl (by repeat' first|exact trivial|assumption|exact qa3 _|exact fun _ h => nomatch h|apply And.intro) (by repeat' first|exact trivial|assumption|exact qa3 _|exact fun _ h => nomatch h|apply And.intro) fun S q pc hS hq hC hE => ?_
  conv => whnf
  exact ⟨_,rfl,(WkV.own _ _ _).wk⟩
theorem qur {a b c s:Nat} {N:AV} {l:List Int} (hN:IL N l) (ha:a < 1000) (hb:b < 1000) (hc:c < 1000) (hs:s = 1 ∨ s = 2 ∨ s = 3):Pure prog 82 [.iface 134 (.agg [nv a,nv b,nv c,nv s,N])] (.str (lnR (a,b,c,s))) :=by
 have p1 :=qcz ha
 have p2 :=qcz hb
 have p3 :=qcz hc
 have b1 :=mil (qfv a) rfl
 have b2 :=mil (qfv b) rfl
 have b3 :=mil (qfv c) rfl
 have g1 :=qbv (kle rfl:([114,117,108,101]:List UInt8).length ≤ 4) (qfv a)
 have g2 :=qbv g1 (qfv b)
 have g3 :=qbv g2 (qfv c)
 have d1 :=mil g1 rfl
 have d2 :=mil g2 rfl
 have d3 :=mil g3 rfl
 have f4:(lnW qh6 [a,b,c] ++ ([32] ++ qc9 s)).length ≤ 1000000 :=mil (qm4 (a,b,c,s)) rfl
 have pn :=qp8 (a :=a) (b :=b) (c :=c) (s :=s) hN
 have lN :=hN.no
 rcases hN with ⟨rfl,_⟩ | rfl <;> rcases hs with rfl | rfl | rfl
 all_goals
  refine qbg hE rfl (by repeat' first|exact trivial|assumption|exact qa3 _|exact fun _ h => nomatch h|apply And.intro) (by repeat' first|exact trivial|assumption|exact qa3 _|exact fun _ h => nomatch h|apply And.intro) fun S q pc hS hq hC hE => ?_
  conv => whnf
  repeat ((first|refine qav hC (qcr) ?_|refine qav hC (pn) ?_|refine qaq hS (by kernel_rfl) ?_);conv => whnf)
  refine qa6 hE hS ?_
  conv => whnf
  try have z14:=stOk b1
  try have z15:=stOk d1
  repeat ((first|refine qa5 ‹_› ?_|refine qa4 ‹_› ?_|refine pkT ‹_› ?_|refine qax ‹_› ?_|refine qa9 ‹_› ?_|refine qbc ‹_› ?_|refine pkF ‹_› ?_|refine qar ‹_› ?_|refine qav hC (p1) ?_|refine qaq hS (by kernel_rfl) ?_);conv => whnf)
  refine qa6 hE hS ?_
  conv => whnf
  try have z16:=stOk b2
  try have z17:=stOk d2
  repeat ((first|refine qa5 ‹_› ?_|refine qa4 ‹_› ?_|refine pkT ‹_› ?_|refine qax ‹_› ?_|refine qa9 ‹_› ?_|refine qbc ‹_› ?_|refine pkF ‹_› ?_|refine qar ‹_› ?_|refine qav hC (p2) ?_|refine qaq hS (by kernel_rfl) ?_);conv => whnf)
  refine qa6 hE hS ?_
  conv => whnf
  try have z18:=stOk b3
  try have z19:=stOk d3
  repeat ((first|refine qa5 ‹_› ?_|refine qa4 ‹_› ?_|refine pkT ‹_› ?_|refine qax ‹_› ?_|refine qa9 ‹_› ?_|refine qbc ‹_› ?_|refine pkF ‹_› ?_|refine qar ‹_› ?_|refine qav hC (p3) ?_|refine qaq hS (by kernel_rfl) ?_);conv => whnf)
  refine qa6 hE hS ?_
  conv => whnf
  repeat ((first|refine qa5 (stOk f4) ?_|refine qa4 (stOk f4) ?_|refine pkT (stOk f4) ?_|refine qax (stOk f4) ?_|refine qa9 (stOk f4) ?_|refine qbc (stOk f4) ?_|refine pkF (stOk f4) ?_|refine qar (stOk f4) ?_|refine qaq hS (by kernel_rfl) ?_);conv => whnf)
  exact ⟨_,rfl,wk_s rfl⟩
end
end Go.Abs.Seat
namespace Go.Abs.Seat
noncomputable section
open Go Go.Abs Go.Proofs.Tryz
set_option maxRecDepth 100000
set_option maxHeartbeats 40000000
attribute [local irreducible] IntKind.wrap pEq
theorem qz4 {x:Nat} (h:¬ (48 ≤ x ∧ x ≤ 57)):decide (Int.ofNat x < 48) = true ∨ (decide (Int.ofNat x < 48) = false ∧ decide (Int.ofNat x > 57) = true) :=by
 by_cases c:x < 48
 ·exact .inl (decide_eq_true (by simp only [Int.ofNat_eq_natCast];omega))
 ·exact .inr ⟨decide_eq_false (by simp only [Int.ofNat_eq_natCast];omega),decide_eq_true (by simp only [Int.ofNat_eq_natCast];omega)⟩
theorem isdg {x:Nat} (h1:48 ≤ x) (h2:x ≤ 57):decide (Int.ofNat x < 48) = false ∧ decide (Int.ofNat x > 57) = false :=⟨decide_eq_false (by simp only [Int.ofNat_eq_natCast];omega),decide_eq_false (by simp only [Int.ofNat_eq_natCast];omega)⟩
theorem dgu:∀ x,x < 58 → 48 ≤ x → IntKind.i64.wrap (IntKind.u8.wrap (Int.ofNat x - 48)) = Int.ofNat (x - 48) :=by decide +kernel
def dgA (w:List UInt8) (i:Nat):Prop :=∀ j,j < i → 48 ≤ (w.getD j 0).toNat ∧ (w.getD j 0).toNat ≤ 57
end
end Go.Abs.Seat
namespace Go.Abs.Seat
noncomputable section
open Go Go.Abs Go.Proofs.Tryz
set_option maxRecDepth 100000
set_option maxHeartbeats 40000000
attribute [local irreducible] IntKind.wrap pEq qco Utf8.decode
theorem qwp (s:List UInt8):Pure prog 85 [.bool true,.str s] (.tup []) :=by
 refine qbg hE rfl (by repeat' first|exact trivial|assumption|exact qa3 _|exact fun _ h => nomatch h|apply And.intro) (by repeat' first|exact trivial|assumption|exact qa3 _|exact fun _ h => nomatch h|apply And.intro) fun S q pc hS hq hC hE => ?_
 conv => whnf
 exact ⟨_,rfl,Wk.refl _⟩
theorem qgh (s:List UInt8):qd1 prog 85 [.bool false,.str s] (noP s) :=by
 refine qcn hE rfl (by repeat' first|exact trivial|assumption|exact qa3 _|exact fun _ h => nomatch h|apply And.intro) (by simp [noP,Live,Lives]) fun S q pc hS hq hC hE => ?_
 conv => whnf
 rfl
theorem qbn {t:Bool} (h:t = true) (s:List UInt8):Pure prog 85 [.bool t,.str s] (.tup []) :=by subst h;exact qwp s
theorem qc5 {t:Bool} (h:t = false) (s:List UInt8):qd1 prog 85 [.bool t,.str s] (noP s) :=by subst h;exact qgh s
theorem qch {T:Tr TypeInfo} {t e:TypeId} {inf:TypeInfo} {L:List (List UInt8)} {k1:IntKind} {x:Int} {a:Nat} (hT:tyU T t = some (.slice e)) (hi:T.get e = some inf) (h1:inf.size = 1) (hx:x = Int.ofNat a) (hb:a ≤ L.length):qco T t (.lst (stA L) L.length .no) (some (.int k1 x)) none = .chk true (.ret (.lst (stA (L.drop a)) (L.length - a) .no)) :=by
 subst hx
 unfold qco
 rw [hT]
 have e1:bnd none L.length L.length = some L.length :=rfl
 have e2:bnd (some (.int k1 (Int.ofNat a))) 0 L.length = some a :=by
  have z1:decide ((0:Int) ≤ Int.ofNat a) = true :=decide_eq_true (Int.natCast_nonneg _)
  have z2:decide (Int.ofNat a ≤ (L.length:Int)) = true :=decide_eq_true (Int.ofNat_le.2 hb)
  simp only [bnd]
  show (match decide ((0:Int) ≤ Int.ofNat a) && decide (Int.ofNat a ≤ (L.length:Int)) with | true => some (Int.ofNat a).toNat | false => none) = some a
  rw [z1,z2];rfl
 have e3:decide (a * inf.size ≤ (stA L).length) = true :=decide_eq_true (by rw [h1,qfu];omega)
 have e4:qfe ((L.length - a) * inf.size) (qgo (a * inf.size) (stA L)) = some (stA (L.drop a)) :=by
  rw [h1,Nat.mul_one,Nat.mul_one,drpN,takN _ _ (by rw [List.length_drop,qfu];omega)]
  unfold stA
  rw [← List.map_drop,List.take_of_length_le (by rw [List.length_map,List.length_drop];omega)]
 simp only [hi,e1,e2,e3,e4]
theorem qnl {s w:List UInt8} {l:List (List UInt8)} (hs:s.length ≤ 1000) (h:spl 32 s = w :: l):Pure prog 86 [.str s,.str w] (.lst (stA l) l.length .no) :=by
 have pS :=qcu s 32 hs
 rw [h] at pS
 have lR :=qbs (w :: l)
 have lO :=qbs l
 have ir:inR 0 (w :: l).length = true :=qbf (i :=0) (Nat.succ_pos _)
 have t0:(w == w) = true :=beq_self_eq_true w
 refine qbg hE rfl (by repeat' first|exact trivial|assumption|exact qa3 _|exact fun _ h => nomatch h|apply And.intro) (by repeat' first|exact trivial|assumption|exact qa3 _|exact fun _ h => nomatch h|apply And.intro) fun S q pc hS hq hC hE => ?_
 conv => whnf
 repeat ((first|refine qa2 (qch (L :=w :: l) (a :=1) (e :=9) (inf :=t9) (by kernel_rfl) (by kernel_rfl) (by kernel_rfl) rfl (Nat.succ_pos _)) ?_|refine qa5 ir ?_|refine qa4 ir ?_|refine pkT ir ?_|refine qax ir ?_|refine qav hC (pS) ?_|refine qav hC (qbn t0 s) ?_|refine qaq hS (by kernel_rfl) ?_);conv => whnf)
 exact ⟨_,rfl,Wk.refl _⟩
theorem qk8 {s w:List UInt8} (hs:s.length ≤ 1000) (h:¬ ∃ l,spl 32 s = w :: l):qd1 prog 86 [.str s,.str w] (noP s) :=by
 have pS :=qcu s 32 hs
 have hne :=qgf 32 s
 have lS:Lives noL [AV.str s,AV.str w] :=⟨trivial,trivial,trivial⟩
 cases hp:spl 32 s with
 |nil => exact absurd hp hne
 |cons p0 r =>
  rw [hp] at pS
  have lR :=qbs (p0 :: r)
  have ir:inR 0 (p0 :: r).length = true :=qbf (i :=0) (Nat.succ_pos _)
  have t0:(p0 == w) = false :=beq_eq_false_iff_ne.2 fun z => h ⟨r,by rw [hp,z]⟩
  refine qcn hE rfl (by repeat' first|exact trivial|assumption|exact qa3 _|exact fun _ h => nomatch h|apply And.intro) (by simp [noP,Live,Lives]) fun S q pc hS hq hC hE => ?_
  conv => whnf
  repeat ((first|refine qa5 ir ?_|refine qa4 ir ?_|refine pkT ir ?_|refine qax ir ?_|refine qav hC (pS) ?_|refine qaq hS (by kernel_rfl) ?_);conv => whnf)
  refine qb0 hC ?_
  conv => whnf
  refine qb7 hS (qc5 t0 s) ?_
  conv => whnf
def nlV (L:List Nat):AV :=if L = [] then .nils else nl (zl L)
theorem qem (L:List Nat):IL (nlV L) (zl L) :=by
 unfold nlV
 split
 ·rename_i e;exact .inl ⟨rfl,by rw [e];rfl⟩
 ·exact .inr rfl
def tdV (L:List Nat) (i c:Nat):AV :=.lst (ivs (zl (L.take i))) i (.ch c)
theorem qwl (L:List Nat) (i:Nat) {c n:Nat} (h:c + 1 ≤ n):bd (tdV L i c) ≤ n :=Nat.max_le.2 ⟨h,qc1 (qby _)⟩
def uxT (L:List Nat) (i:Nat):List AObj :=[.siter (dec (gn L 0)) (dec (gn L 0)).length,.chain i 1 3]
structure IsW (w:List UInt8):Prop where
 dg:∀ p,p < w.length → 48 ≤ (w.getD p 0).toNat ∧ (w.getD p 0).toNat ≤ 57
 le:w.length ≤ 3
 ne:w ≠ []
 eq:dec (valD w) = w
theorem qku {n:Nat} (h:n < 1000):IsW (dec n) :=by
 obtain ⟨h1,h2,h3,h4⟩ :=qxu.1 ⟨n,h,rfl⟩
 refine ⟨fun p hp => ?_,h2,h3,h4⟩
 have e:(dec n).getD p 0 = (dec n)[p] :=by simp [List.getD,hp]
 rw [e]
 exact h1 _ (List.getElem_mem hp)
theorem qla {w:List UInt8} (h:∀ p,p < w.length → 48 ≤ (w.getD p 0).toNat ∧ (w.getD p 0).toNat ≤ 57) (hl:w.length ≤ 3) {p:Nat} (hp:p ≤ w.length):valD (w.take p) < 1000 :=by
 refine ql5 (fun b hb => ?_) (by rw [List.length_take];omega)
 obtain ⟨i,hi,e⟩ :=List.getElem_of_mem (List.mem_of_mem_take hb)
 have k :=h i hi
 have e2:w.getD i 0 = b :=by rw [← e];simp [List.getD,hi]
 rw [e2] at k
 exact k
theorem qhf {w:List UInt8} {p:Nat} (hA:dgA w p) (hl:w.length ≤ 3) (hp:p ≤ w.length):valD (w.take p) < 1000 :=by
 refine ql5 (fun b hb => ?_) (by rw [List.length_take];omega)
 obtain ⟨i,hi,e⟩ :=List.getElem_of_mem hb
 rw [List.length_take] at hi
 have k :=hA i (by omega)
 have e2:w.getD i 0 = b :=by rw [← e];simp [List.getD,show i < w.length by omega]
 rw [e2] at k
 exact k
theorem qi7 {w:List UInt8} {p:Nat} (hd:Utf8.decode ⟨w.toArray⟩ p = ((w.getD p 0).toNat,1)) (hg:48 ≤ (w.getD p 0).toNat ∧ (w.getD p 0).toNat ≤ 57) (hp:p < w.length) (hv:valD (w.take p) < 1000):IntKind.i64.wrap (IntKind.i64.wrap (10 * Int.ofNat (valD (w.take p))) + IntKind.i64.wrap (IntKind.i32.wrap (Int.ofNat (Utf8.decode ⟨w.toArray⟩ p).1 - 48))) = Int.ofNat (valD (w.take (p + 1))) :=by
 rw [hd,dgv _ (show (w.getD p 0).toNat < 58 by omega) hg.1,show IntKind.i64.wrap (10 * Int.ofNat (valD (w.take p))) = Int.ofNat (10 * valD (w.take p)) from qbr (m :=10 * valD (w.take p)) (by omega),qlb w hp]
 exact qbr (m :=10 * valD (w.take p) + ((w.getD p 0).toNat - 48)) (by omega)
theorem qgw (L:List Nat) (c:Nat) (h:0 < L.length):AV.lst [nv (gn L 0)] (0 + 1) (.ch c) = tdV L 1 c :=by
 unfold tdV
 rw [ql9 L h];rfl
theorem qh0 (L:List Nat) (c:Nat) {i:Nat} (h:i < L.length):AV.lst (ivs (zl (L.take i)) ++ [nv (gn L i)]) (i + (0 + 1)) (.ch c) = tdV L (i + 1) c :=by
 unfold tdV
 rw [ql9 L h,qqf]
theorem qwu {L:List Nat} (h:∀ n,n ∈ L → n < 1000) (hl:L.length ≤ 1000):Pure prog 89 [.lst (stA (L.map dec)) L.length .no] (nlV L) :=by
 have lW :=qbs (L.map dec)
 have lR :=(qem L).no
 have lK :=fun i => qby (zl (L.take i))
 have gx:∀ i,i < L.length → nth (stA (L.map dec)) (i * 1) = some (.str (dec (gn L i))) :=fun i hi => by
  have k :=qb2 (l :=L.map dec) (i :=i) (by rw [List.length_map];exact hi)
  rw [k]
  simp [gB,gn,List.getD,hi]
 refine qbg hE rfl (by repeat' first|exact trivial|assumption|exact qa3 _|exact fun _ h => nomatch h|apply And.intro) (by repeat' first|exact trivial|assumption|exact qa3 _|exact fun _ h => nomatch h|apply And.intro) fun S q pc hS hq hC hE => ?_
 conv => whnf
 repeat ((first|refine qaq hS (by kernel_rfl) ?_);conv => whnf)
 refine qbh hE hS (A :=Nat × AV × List AObj) [9,10] (fun (i,v,_) => [(3,v),(11,nv i)]) (fun _ => []) (fun a => a.2.2) (fun (i,v,ux) => i ≤ L.length ∧ (i = 0 ∧ v = .nils ∧ ux = [] ∨ 0 < i ∧ v = tdV L i 1 ∧ ux = uxT L i)) (fun (i,_,_) => L.length - i) (0,.nils,[]) (kle rfl) rfl (zhg 0) ⟨Nat.zero_le _,.inl ⟨rfl,rfl,rfl⟩⟩ ?_
 rintro ⟨i,v,ux⟩ ⟨hi,hv⟩ K hK
 have hi:i ≤ L.length :=hi
 refine Or.elim hv (fun hv => ?_) fun hv => ?_
 ·obtain ⟨rfl,rfl,rfl⟩ :=hv
  obtain rfl:K = 0 :=hK
  conv => whnf
  by_cases hi2:0 < L.length
  ·try have z94:=qbk hi2
   try have z95:=qbf hi2
   repeat ((first|refine qa2 (nthP (gx _ hi2)) ?_|refine qa5 ‹_› ?_|refine qa4 ‹_› ?_|refine pkT ‹_› ?_|refine qax ‹_› ?_|refine qa9 ‹_› ?_|refine qbc ‹_› ?_|refine pkF ‹_› ?_|refine qar ‹_› ?_|refine qaq hS (by kernel_rfl) ?_);conv => whnf)
   obtain ⟨w,ew⟩ : ∃ w,w = dec (gn L 0) :=⟨_,rfl⟩
   have hw :=qku (qfq h hi2)
   rw [← ew] at hw
   have eS:AV.str (dec (gn L 0)) = .str w :=by rw [ew]
   have eO:AObj.siter (dec (gn L 0)) 0 = .siter w 0 :=by rw [ew]
   have t3:decide ((w.length:Int) ≤ 3) = true :=decide_eq_true (by have :=hw.le;omega)
   have vE:valD w = gn L 0 :=by rw [ew];exact qey _ (qfq h hi2)
   refine qbh hE hS (A :=Nat) [3,9,10,11,16] (fun p => [(5,.str w),(6,nv (valD (w.take p)))]) (fun p => [(0,.siter w p)]) (fun _ => []) (fun p => p ≤ w.length) (fun p => w.length - p) 0 (kle rfl) rfl (zhg 1) (Nat.zero_le _) ?_
   intro p hp K hK
   obtain rfl:K = 1 :=hK
   conv => whnf
   by_cases hp2:p < w.length
   ·have hg :=hw.dg p hp2
    have hd :=qf3 hp2 (show (w.getD p 0).toNat < 128 by omega)
    have n0:decide (p < w.length) = true :=decide_eq_true hp2
    have t1:decide (Int.ofNat (Utf8.decode ⟨w.toArray⟩ p).1 ≥ 48) = true :=decide_eq_true (by rw [hd];simp only [Int.ofNat_eq_natCast];omega)
    have t2:decide (Int.ofNat (Utf8.decode ⟨w.toArray⟩ p).1 ≤ 57) = true :=decide_eq_true (by rw [hd];simp only [Int.ofNat_eq_natCast];omega)
    have hV :=qi7 hd hg hp2 (qla hw.dg hw.le (p :=p) (by omega))
    have eP:AObj.siter w (p + (Utf8.decode ⟨w.toArray⟩ p).2) = .siter w (p + 1) :=by rw [hd]
    repeat ((first|refine qa2 (nx_t n0) ?_|refine qa5 ‹_› ?_|refine qa4 ‹_› ?_|refine pkT ‹_› ?_|refine qax ‹_› ?_|refine qa5 (qcc ‹_›) ?_|refine qa4 (qcc ‹_›) ?_|refine pkT (qcc ‹_›) ?_|refine qax (qcc ‹_›) ?_|refine qav hC (qbn t3 w) ?_|refine qaq hS (by kernel_rfl) ?_);conv => whnf)
    exact ⟨p + 1,hp2,by omega,Nat.le_refl _,(zhg 1)⟩
   ·have hpE:p = w.length :=by omega
    have n0:decide (p < w.length) = false :=decide_eq_false hp2
    have pI :=qcz (qla hw.dg hw.le (p :=p) (by omega))
    have t4:(!(w == [])) = true :=by rw [beq_eq_false_iff_ne.2 hw.ne];rfl
    have t5:(dec (valD (w.take p)) == w) = true :=by rw [hpE,List.take_length,hw.eq];exact beq_self_eq_true _
    have vP:valD (w.take p) = gn L 0 :=by rw [hpE,List.take_length,vE]
    have eU:AObj.siter w p = .siter (dec (gn L 0)) (dec (gn L 0)).length :=by rw [hpE,ew]
    have e2:AV.lst [nv (valD (w.take p))] (0 + 1) (.ch 1) = tdV L 1 1 :=by rw [vP];exact qgw L 1 hi2
    repeat ((first|refine qa2 (nx_f n0) ?_|refine qaq hS (by kernel_rfl) ?_);conv => whnf)
    refine .inl ?_
    conv => whnf
    repeat ((first|refine qa5 t4 ?_|refine qa4 t4 ?_|refine pkT t4 ?_|refine qax t4 ?_|refine qa5 (qcc t4) ?_|refine qa4 (qcc t4) ?_|refine pkT (qcc t4) ?_|refine qax (qcc t4) ?_|refine qav hC (pI) ?_|refine qav hC (qbn t5 w) ?_|refine qaq hS (by kernel_rfl) ?_);conv => whnf)
    exact ⟨(1,tdV L 1 1,uxT L 1),⟨hi2,.inr ⟨Nat.zero_lt_one,rfl,rfl⟩⟩,by show L.length - 1 < L.length - 0;omega,kle rfl,(zhg 2)⟩
  ·refine qar (qb9 hi2) ?_
   conv => whnf
   refine .inl ?_
   conv => whnf
   have eL:L.length = 0 :=by omega
   have e0:L = [] :=List.eq_nil_of_length_eq_zero eL
   have eR:nlV L = .nils :=if_pos e0
   rw [eR]
   exact ⟨_,rfl,Wk.refl _⟩
 ·obtain ⟨hj2,rfl,rfl⟩ :=hv
  obtain rfl:K = 2 :=hK
  conv => whnf
  by_cases hi2:i < L.length
  ·try have z96:=qbk hi2
   try have z97:=qbf hi2
   repeat ((first|refine qa2 (nthP (gx _ hi2)) ?_|refine qa5 ‹_› ?_|refine qa4 ‹_› ?_|refine pkT ‹_› ?_|refine qax ‹_› ?_|refine qa9 ‹_› ?_|refine qbc ‹_› ?_|refine pkF ‹_› ?_|refine qar ‹_› ?_|refine qaq hS (by kernel_rfl) ?_);conv => whnf)
   obtain ⟨w,ew⟩ : ∃ w,w = dec (gn L i) :=⟨_,rfl⟩
   have hw :=qku (qfq h hi2)
   rw [← ew] at hw
   have eS:AV.str (dec (gn L i)) = .str w :=by rw [ew]
   have eO:AObj.siter (dec (gn L i)) 0 = .siter w 0 :=by rw [ew]
   have t3:decide ((w.length:Int) ≤ 3) = true :=decide_eq_true (by have :=hw.le;omega)
   have vE:valD w = gn L i :=by rw [ew];exact qey _ (qfq h hi2)
   refine qbh hE hS (A :=Nat) [3,9,10,11,16] (fun p => [(5,.str w),(6,nv (valD (w.take p)))]) (fun p => [(2,.siter w p)]) (fun _ => []) (fun p => p ≤ w.length) (fun p => w.length - p) 0 (kle rfl) rfl (zhg 3) (Nat.zero_le _) ?_
   intro p hp K hK
   obtain rfl:K = 3 :=hK
   conv => whnf
   by_cases hp2:p < w.length
   ·have hg :=hw.dg p hp2
    have hd :=qf3 hp2 (show (w.getD p 0).toNat < 128 by omega)
    have n0:decide (p < w.length) = true :=decide_eq_true hp2
    have t1:decide (Int.ofNat (Utf8.decode ⟨w.toArray⟩ p).1 ≥ 48) = true :=decide_eq_true (by rw [hd];simp only [Int.ofNat_eq_natCast];omega)
    have t2:decide (Int.ofNat (Utf8.decode ⟨w.toArray⟩ p).1 ≤ 57) = true :=decide_eq_true (by rw [hd];simp only [Int.ofNat_eq_natCast];omega)
    have hV :=qi7 hd hg hp2 (qla hw.dg hw.le (p :=p) (by omega))
    have eP:AObj.siter w (p + (Utf8.decode ⟨w.toArray⟩ p).2) = .siter w (p + 1) :=by rw [hd]
    repeat ((first|refine qa2 (nx_t n0) ?_|refine qa5 ‹_› ?_|refine qa4 ‹_› ?_|refine pkT ‹_› ?_|refine qax ‹_› ?_|refine qa5 (qcc ‹_›) ?_|refine qa4 (qcc ‹_›) ?_|refine pkT (qcc ‹_›) ?_|refine qax (qcc ‹_›) ?_|refine qav hC (qbn t3 w) ?_|refine qaq hS (by kernel_rfl) ?_);conv => whnf)
    exact ⟨p + 1,hp2,by omega,Nat.le_refl _,(zhg 3)⟩
   ·have hpE:p = w.length :=by omega
    have n0:decide (p < w.length) = false :=decide_eq_false hp2
    have pI :=qcz (qla hw.dg hw.le (p :=p) (by omega))
    have t4:(!(w == [])) = true :=by rw [beq_eq_false_iff_ne.2 hw.ne];rfl
    have t5:(dec (valD (w.take p)) == w) = true :=by rw [hpE,List.take_length,hw.eq];exact beq_self_eq_true _
    have vP:valD (w.take p) = gn L i :=by rw [hpE,List.take_length,vE]
    have eU:AObj.siter w p = .siter (dec (gn L i)) (dec (gn L i)).length :=by rw [hpE,ew]
    have e2:AV.lst (ivs (zl (L.take i)) ++ [nv (valD (w.take p))]) (i + (0 + 1)) (.ch 1) = tdV L (i + 1) 1 :=by rw [vP];exact qh0 L 1 hi2
    have d1:decide ((i + (0 + 1)) * 8 ≤ 140737488355328) = true :=decide_eq_true (by omega)
    have d2:decide (i + (0 + 1) ≤ 9223372036854775807) = true :=decide_eq_true (by omega)
    have d4:decide (i = i) = true :=decide_eq_true rfl
    have d5 :=qhz L hi
    have hi1:IntKind.i64.wrap (Int.ofNat i + 1) = Int.ofNat (i + 1) :=qbr (m :=i + 1) (by omega)
    repeat ((first|refine qa2 (nx_f n0) ?_|refine qaq hS (by kernel_rfl) ?_);conv => whnf)
    refine .inl ?_
    conv => whnf
    repeat ((first|refine qa5 ‹_› ?_|refine qa4 ‹_› ?_|refine pkT ‹_› ?_|refine qax ‹_› ?_|refine qa9 ‹_› ?_|refine qbc ‹_› ?_|refine pkF ‹_› ?_|refine qar ‹_› ?_|refine qa5 (qcc ‹_›) ?_|refine qa4 (qcc ‹_›) ?_|refine pkT (qcc ‹_›) ?_|refine qax (qcc ‹_›) ?_|refine qav hC (pI) ?_|refine qav hC (qbn t5 w) ?_|refine qaq hS (by kernel_rfl) ?_);conv => whnf)
    exact ⟨(i + 1,tdV L (i + 1) 1,uxT L (i + 1)),⟨hi2,.inr ⟨Nat.succ_pos _,rfl,rfl⟩⟩,by show L.length - (i + 1) < L.length - i;omega,kle rfl,(zhg 2)⟩
  ·refine qar (qb9 hi2) ?_
   conv => whnf
   refine .inl ?_
   conv => whnf
   have eL:L.length = i :=by omega
   have e0:L ≠ [] :=fun z => by rw [z] at eL;rw [← eL] at hj2;exact absurd hj2 (Nat.lt_irrefl _)
   have eR:nlV L = nl (zl L) :=if_neg e0
   rw [eR]
   exact ⟨_,rfl,qrz (by rw [List.length_take];omega) (by rw [← eL,List.take_length])⟩
theorem qtt {L:List Nat} {w:List UInt8} {R:List (List UInt8)} (h:∀ n,n ∈ L → n < 1000) (hl:L.length ≤ 1000) (hR:R.length ≤ 1000) (hwl:w.length ≤ 1000) (hbad:¬ ∃ n,n < 1000 ∧ w = dec n):qd1 prog 89 [.lst (stA (L.map dec ++ w :: R)) (L.length + (R.length + 1)) .no] (noP w) :=by
 have lW :=qbs (L.map dec ++ w :: R)
 have lK :=fun i => qby (zl (L.take i))
 have hN:(L.map dec ++ w :: R).length = L.length + (R.length + 1) :=by rw [List.length_append,List.length_map,List.length_cons]
 have gx:∀ i,i < L.length → nth (stA (L.map dec ++ w :: R)) (i * 1) = some (.str (dec (gn L i))) :=fun i hi => by
  have k :=qb2 (l :=L.map dec ++ w :: R) (i :=i) (by omega)
  rw [k,qlu (by rw [List.length_map];exact hi)]
  simp [gB,gn,List.getD,hi]
 have gw:nth (stA (L.map dec ++ w :: R)) (L.length * 1) = some (.str w) :=by
  have k :=qb2 (l :=L.map dec ++ w :: R) (i :=L.length) (by omega)
  rw [k]
  simp [gB,List.getD]
 have lS:Lives noL [AV.lst (stA (L.map dec ++ w :: R)) (L.length + (R.length + 1)) .no] :=⟨⟨lW,fun _ e => nomatch e⟩,trivial⟩
 refine qcn hE rfl (by repeat' first|exact trivial|assumption|exact qa3 _|exact fun _ h => nomatch h|apply And.intro) (by simp [noP,Live,Lives]) fun S q pc hS hq hC hE => ?_
 conv => whnf
 repeat ((first|refine qaq hS (by kernel_rfl) ?_);conv => whnf)
 refine qbh hE hS (A :=Nat × AV × List AObj) [9,10] (fun (i,v,_) => [(3,v),(11,nv i)]) (fun _ => []) (fun a => a.2.2) (fun (i,v,ux) => i ≤ L.length ∧ (i = 0 ∧ v = .nils ∧ ux = [] ∨ 0 < i ∧ v = tdV L i 1 ∧ ux = uxT L i)) (fun (i,_,_) => L.length - i) (0,.nils,[]) (kle rfl) rfl (zhg 0) ⟨Nat.zero_le _,.inl ⟨rfl,rfl,rfl⟩⟩ ?_
 rintro ⟨i,v,ux⟩ ⟨hi,hv⟩ K hK
 have hi:i ≤ L.length :=hi
 refine Or.elim hv (fun hv => ?_) fun hv => ?_
 ·obtain ⟨rfl,rfl,rfl⟩ :=hv
  obtain rfl:K = 0 :=hK
  conv => whnf
  have hiN:0 < L.length + (R.length + 1) :=by omega
  by_cases hi2:0 < L.length
  ·try have z98:=qbk hiN
   try have z99:=qbf hiN
   repeat ((first|refine qa2 (nthP (gx _ hi2)) ?_|refine qa5 ‹_› ?_|refine qa4 ‹_› ?_|refine pkT ‹_› ?_|refine qax ‹_› ?_|refine qa9 ‹_› ?_|refine qbc ‹_› ?_|refine pkF ‹_› ?_|refine qar ‹_› ?_|refine qaq hS (by kernel_rfl) ?_);conv => whnf)
   obtain ⟨w,ew⟩ : ∃ w,w = dec (gn L 0) :=⟨_,rfl⟩
   have hw :=qku (qfq h hi2)
   rw [← ew] at hw
   have eS:AV.str (dec (gn L 0)) = .str w :=by rw [ew]
   have eO:AObj.siter (dec (gn L 0)) 0 = .siter w 0 :=by rw [ew]
   have t3:decide ((w.length:Int) ≤ 3) = true :=decide_eq_true (by have :=hw.le;omega)
   have vE:valD w = gn L 0 :=by rw [ew];exact qey _ (qfq h hi2)
   refine qbh hE hS (A :=Nat) [3,9,10,11,16] (fun p => [(5,.str w),(6,nv (valD (w.take p)))]) (fun p => [(0,.siter w p)]) (fun _ => []) (fun p => p ≤ w.length) (fun p => w.length - p) 0 (kle rfl) rfl (zhg 1) (Nat.zero_le _) ?_
   intro p hp K hK
   obtain rfl:K = 1 :=hK
   conv => whnf
   by_cases hp2:p < w.length
   ·have hg :=hw.dg p hp2
    have hd :=qf3 hp2 (show (w.getD p 0).toNat < 128 by omega)
    have n0:decide (p < w.length) = true :=decide_eq_true hp2
    have t1:decide (Int.ofNat (Utf8.decode ⟨w.toArray⟩ p).1 ≥ 48) = true :=decide_eq_true (by rw [hd];simp only [Int.ofNat_eq_natCast];omega)
    have t2:decide (Int.ofNat (Utf8.decode ⟨w.toArray⟩ p).1 ≤ 57) = true :=decide_eq_true (by rw [hd];simp only [Int.ofNat_eq_natCast];omega)
    have hV :=qi7 hd hg hp2 (qla hw.dg hw.le (p :=p) (by omega))
    have eP:AObj.siter w (p + (Utf8.decode ⟨w.toArray⟩ p).2) = .siter w (p + 1) :=by rw [hd]
    repeat ((first|refine qa2 (nx_t n0) ?_|refine qa5 ‹_› ?_|refine qa4 ‹_› ?_|refine pkT ‹_› ?_|refine qax ‹_› ?_|refine qa5 (qcc ‹_›) ?_|refine qa4 (qcc ‹_›) ?_|refine pkT (qcc ‹_›) ?_|refine qax (qcc ‹_›) ?_|refine qav hC (qbn t3 w) ?_|refine qaq hS (by kernel_rfl) ?_);conv => whnf)
    exact ⟨p + 1,hp2,by omega,Nat.le_refl _,(zhg 1)⟩
   ·have hpE:p = w.length :=by omega
    have n0:decide (p < w.length) = false :=decide_eq_false hp2
    have pI :=qcz (qla hw.dg hw.le (p :=p) (by omega))
    have t4:(!(w == [])) = true :=by rw [beq_eq_false_iff_ne.2 hw.ne];rfl
    have t5:(dec (valD (w.take p)) == w) = true :=by rw [hpE,List.take_length,hw.eq];exact beq_self_eq_true _
    have vP:valD (w.take p) = gn L 0 :=by rw [hpE,List.take_length,vE]
    have eU:AObj.siter w p = .siter (dec (gn L 0)) (dec (gn L 0)).length :=by rw [hpE,ew]
    have e2:AV.lst [nv (valD (w.take p))] (0 + 1) (.ch 1) = tdV L 1 1 :=by rw [vP];exact qgw L 1 hi2
    repeat ((first|refine qa2 (nx_f n0) ?_|refine qaq hS (by kernel_rfl) ?_);conv => whnf)
    refine .inl ?_
    conv => whnf
    repeat ((first|refine qa5 t4 ?_|refine qa4 t4 ?_|refine pkT t4 ?_|refine qax t4 ?_|refine qa5 (qcc t4) ?_|refine qa4 (qcc t4) ?_|refine pkT (qcc t4) ?_|refine qax (qcc t4) ?_|refine qav hC (pI) ?_|refine qav hC (qbn t5 w) ?_|refine qaq hS (by kernel_rfl) ?_);conv => whnf)
    exact ⟨(1,tdV L 1 1,uxT L 1),⟨hi2,.inr ⟨Nat.zero_lt_one,rfl,rfl⟩⟩,by show L.length - 1 < L.length - 0;omega,kle rfl,(zhg 2)⟩
  ·have eL:L.length = 0 :=by omega
   rw [eL] at gw
   try have z100:=qbk hiN
   try have z101:=qbf hiN
   repeat ((first|refine qa2 (nthP gw) ?_|refine qa5 ‹_› ?_|refine qa4 ‹_› ?_|refine pkT ‹_› ?_|refine qax ‹_› ?_|refine qa9 ‹_› ?_|refine qbc ‹_› ?_|refine pkF ‹_› ?_|refine qar ‹_› ?_|refine qaq hS (by kernel_rfl) ?_);conv => whnf)
   refine qbh hE hS (A :=Nat) [3,9,10,11,16] (fun p => [(5,.str w),(6,nv (valD (w.take p)))]) (fun p => [(0,.siter w p)]) (fun _ => []) (fun p => p ≤ w.length ∧ dgA w p ∧ (0 < p → w.length ≤ 3)) (fun p => w.length - p) 0 (kle rfl) rfl (zhg 1) ⟨Nat.zero_le _,fun _ h => absurd h (Nat.not_lt_zero _),fun h => absurd h (Nat.lt_irrefl _)⟩ ?_
   intro p ⟨hp,hA,h3⟩ K hK
   obtain rfl:K = 1 :=hK
   conv => whnf
   by_cases hp2:p < w.length
   ·have n0:decide (p < w.length) = true :=decide_eq_true hp2
    refine Or.elim (qlw hp2) (fun hg => ?_) fun hg => ?_
    ·have hd :=hg.2.2
     have t1:decide (Int.ofNat (Utf8.decode ⟨w.toArray⟩ p).1 ≥ 48) = true :=decide_eq_true (by rw [hd];have :=hg.1;simp only [Int.ofNat_eq_natCast];omega)
     have t2:decide (Int.ofNat (Utf8.decode ⟨w.toArray⟩ p).1 ≤ 57) = true :=decide_eq_true (by rw [hd];have :=hg.2.1;simp only [Int.ofNat_eq_natCast];omega)
     by_cases hl3:w.length ≤ 3
     ·have t3:decide ((w.length:Int) ≤ 3) = true :=decide_eq_true (by omega)
      have hV :=qi7 hd ⟨hg.1,hg.2.1⟩ hp2 (qhf hA hl3 (by omega))
      have eP:AObj.siter w (p + (Utf8.decode ⟨w.toArray⟩ p).2) = .siter w (p + 1) :=by rw [hd]
      repeat ((first|refine qa2 (nx_t n0) ?_|refine qa5 ‹_› ?_|refine qa4 ‹_› ?_|refine pkT ‹_› ?_|refine qax ‹_› ?_|refine qa5 (qcc ‹_›) ?_|refine qa4 (qcc ‹_›) ?_|refine pkT (qcc ‹_›) ?_|refine qax (qcc ‹_›) ?_|refine qav hC (qbn t3 w) ?_|refine qaq hS (by kernel_rfl) ?_);conv => whnf)
      exact ⟨p + 1,⟨hp2,fun j hj => (Nat.lt_succ_iff_lt_or_eq.1 hj).elim (hA j) fun e => by rw [e];exact ⟨hg.1,hg.2.1⟩,fun _ => hl3⟩,by omega,Nat.le_refl _,(zhg 1)⟩
     ·have t3:decide ((w.length:Int) ≤ 3) = false :=decide_eq_false (by omega)
      repeat ((first|refine qa2 (nx_t n0) ?_|refine qa5 ‹_› ?_|refine qa4 ‹_› ?_|refine pkT ‹_› ?_|refine qax ‹_› ?_|refine qa5 (qcc ‹_›) ?_|refine qa4 (qcc ‹_›) ?_|refine pkT (qcc ‹_›) ?_|refine qax (qcc ‹_›) ?_|refine qaq hS (by kernel_rfl) ?_);conv => whnf)
      refine qb0 hC ?_
      conv => whnf
      refine qb7 hS (qc5 t3 w) ?_
      conv => whnf
    ·have hn :=hg.2
     by_cases h1:48 ≤ (Utf8.decode ⟨w.toArray⟩ p).1
     ·have t1:decide (Int.ofNat (Utf8.decode ⟨w.toArray⟩ p).1 ≥ 48) = true :=decide_eq_true (by simp only [Int.ofNat_eq_natCast];omega)
      have t2:decide (Int.ofNat (Utf8.decode ⟨w.toArray⟩ p).1 ≤ 57) = false :=decide_eq_false (by simp only [Int.ofNat_eq_natCast];omega)
      repeat ((first|refine qa2 (nx_t n0) ?_|refine qa5 ‹_› ?_|refine qa4 ‹_› ?_|refine pkT ‹_› ?_|refine qax ‹_› ?_|refine qa9 ‹_› ?_|refine qbc ‹_› ?_|refine pkF ‹_› ?_|refine qar ‹_› ?_|refine qa5 (qcc ‹_›) ?_|refine qa4 (qcc ‹_›) ?_|refine pkT (qcc ‹_›) ?_|refine qax (qcc ‹_›) ?_|refine qa9 (qc8 ‹_›) ?_|refine qbc (qc8 ‹_›) ?_|refine pkF (qc8 ‹_›) ?_|refine qar (qc8 ‹_›) ?_|refine qaq hS (by kernel_rfl) ?_);conv => whnf)
      refine qb0 hC ?_
      conv => whnf
      refine qb7 hS (qgh w) ?_
      conv => whnf
     ·have t1:decide (Int.ofNat (Utf8.decode ⟨w.toArray⟩ p).1 ≥ 48) = false :=decide_eq_false (by simp only [Int.ofNat_eq_natCast];omega)
      repeat ((first|refine qa2 (nx_t n0) ?_|refine qa9 t1 ?_|refine qbc t1 ?_|refine pkF t1 ?_|refine qar t1 ?_|refine qa9 (qc8 t1) ?_|refine qbc (qc8 t1) ?_|refine pkF (qc8 t1) ?_|refine qar (qc8 t1) ?_|refine qaq hS (by kernel_rfl) ?_);conv => whnf)
      refine qb0 hC ?_
      conv => whnf
      refine qb7 hS (qgh w) ?_
      conv => whnf
   ·have hpE:p = w.length :=by omega
    have n0:decide (p < w.length) = false :=decide_eq_false hp2
    by_cases hw0:w = []
    ·have t4:(!(w == [])) = false :=by rw [hw0];rfl
     repeat ((first|refine qa2 (nx_f n0) ?_|refine qaq hS (by kernel_rfl) ?_);conv => whnf)
     refine .inl ?_
     conv => whnf
     repeat ((first|refine qa9 t4 ?_|refine qbc t4 ?_|refine pkF t4 ?_|refine qar t4 ?_|refine qa9 (qc8 t4) ?_|refine qbc (qc8 t4) ?_|refine pkF (qc8 t4) ?_|refine qar (qc8 t4) ?_|refine qaq hS (by kernel_rfl) ?_);conv => whnf)
     refine qb0 hC ?_
     conv => whnf
     refine qb7 hS (qgh w) ?_
     conv => whnf
    ·have hl3:w.length ≤ 3 :=h3 (by have :=List.length_pos_iff.2 hw0;omega)
     have pI :=qcz (qhf hA hl3 (p :=p) (by omega))
     have t4:(!(w == [])) = true :=by rw [beq_eq_false_iff_ne.2 hw0];rfl
     have t5:(dec (valD (w.take p)) == w) = false :=beq_eq_false_iff_ne.2 fun z => hbad ⟨valD (w.take p),qhf hA hl3 (by omega),z.symm⟩
     repeat ((first|refine qa2 (nx_f n0) ?_|refine qaq hS (by kernel_rfl) ?_);conv => whnf)
     refine .inl ?_
     conv => whnf
     repeat ((first|refine qa5 t4 ?_|refine qa4 t4 ?_|refine pkT t4 ?_|refine qax t4 ?_|refine qa5 (qcc t4) ?_|refine qa4 (qcc t4) ?_|refine pkT (qcc t4) ?_|refine qax (qcc t4) ?_|refine qav hC (pI) ?_|refine qaq hS (by kernel_rfl) ?_);conv => whnf)
     refine qb0 hC ?_
     conv => whnf
     refine qb7 hS (qc5 t5 w) ?_
     conv => whnf
 ·obtain ⟨hj2,rfl,rfl⟩ :=hv
  obtain rfl:K = 2 :=hK
  conv => whnf
  have hiN:i < L.length + (R.length + 1) :=by omega
  by_cases hi2:i < L.length
  ·try have z102:=qbk hiN
   try have z103:=qbf hiN
   repeat ((first|refine qa2 (nthP (gx _ hi2)) ?_|refine qa5 ‹_› ?_|refine qa4 ‹_› ?_|refine pkT ‹_› ?_|refine qax ‹_› ?_|refine qa9 ‹_› ?_|refine qbc ‹_› ?_|refine pkF ‹_› ?_|refine qar ‹_› ?_|refine qaq hS (by kernel_rfl) ?_);conv => whnf)
   obtain ⟨w,ew⟩ : ∃ w,w = dec (gn L i) :=⟨_,rfl⟩
   have hw :=qku (qfq h hi2)
   rw [← ew] at hw
   have eS:AV.str (dec (gn L i)) = .str w :=by rw [ew]
   have eO:AObj.siter (dec (gn L i)) 0 = .siter w 0 :=by rw [ew]
   have t3:decide ((w.length:Int) ≤ 3) = true :=decide_eq_true (by have :=hw.le;omega)
   have vE:valD w = gn L i :=by rw [ew];exact qey _ (qfq h hi2)
   refine qbh hE hS (A :=Nat) [3,9,10,11,16] (fun p => [(5,.str w),(6,nv (valD (w.take p)))]) (fun p => [(2,.siter w p)]) (fun _ => []) (fun p => p ≤ w.length) (fun p => w.length - p) 0 (kle rfl) rfl (zhg 3) (Nat.zero_le _) ?_
   intro p hp K hK
   obtain rfl:K = 3 :=hK
   conv => whnf
   by_cases hp2:p < w.length
   ·have hg :=hw.dg p hp2
    have hd :=qf3 hp2 (show (w.getD p 0).toNat < 128 by omega)
    have n0:decide (p < w.length) = true :=decide_eq_true hp2
    have t1:decide (Int.ofNat (Utf8.decode ⟨w.toArray⟩ p).1 ≥ 48) = true :=decide_eq_true (by rw [hd];simp only [Int.ofNat_eq_natCast];omega)
    have t2:decide (Int.ofNat (Utf8.decode ⟨w.toArray⟩ p).1 ≤ 57) = true :=decide_eq_true (by rw [hd];simp only [Int.ofNat_eq_natCast];omega)
    have hV :=qi7 hd hg hp2 (qla hw.dg hw.le (p :=p) (by omega))
    have eP:AObj.siter w (p + (Utf8.decode ⟨w.toArray⟩ p).2) = .siter w (p + 1) :=by rw [hd]
    repeat ((first|refine qa2 (nx_t n0) ?_|refine qa5 ‹_› ?_|refine qa4 ‹_› ?_|refine pkT ‹_› ?_|refine qax ‹_› ?_|refine qa5 (qcc ‹_›) ?_|refine qa4 (qcc ‹_›) ?_|refine pkT (qcc ‹_›) ?_|refine qax (qcc ‹_›) ?_|refine qav hC (qbn t3 w) ?_|refine qaq hS (by kernel_rfl) ?_);conv => whnf)
    exact ⟨p + 1,hp2,by omega,Nat.le_refl _,(zhg 3)⟩
   ·have hpE:p = w.length :=by omega
    have n0:decide (p < w.length) = false :=decide_eq_false hp2
    have pI :=qcz (qla hw.dg hw.le (p :=p) (by omega))
    have t4:(!(w == [])) = true :=by rw [beq_eq_false_iff_ne.2 hw.ne];rfl
    have t5:(dec (valD (w.take p)) == w) = true :=by rw [hpE,List.take_length,hw.eq];exact beq_self_eq_true _
    have vP:valD (w.take p) = gn L i :=by rw [hpE,List.take_length,vE]
    have eU:AObj.siter w p = .siter (dec (gn L i)) (dec (gn L i)).length :=by rw [hpE,ew]
    have e2:AV.lst (ivs (zl (L.take i)) ++ [nv (valD (w.take p))]) (i + (0 + 1)) (.ch 1) = tdV L (i + 1) 1 :=by rw [vP];exact qh0 L 1 hi2
    have d1:decide ((i + (0 + 1)) * 8 ≤ 140737488355328) = true :=decide_eq_true (by omega)
    have d2:decide (i + (0 + 1) ≤ 9223372036854775807) = true :=decide_eq_true (by omega)
    have d4:decide (i = i) = true :=decide_eq_true rfl
    have d5 :=qhz L hi
    have hi1:IntKind.i64.wrap (Int.ofNat i + 1) = Int.ofNat (i + 1) :=qbr (m :=i + 1) (by omega)
    repeat ((first|refine qa2 (nx_f n0) ?_|refine qaq hS (by kernel_rfl) ?_);conv => whnf)
    refine .inl ?_
    conv => whnf
    repeat ((first|refine qa5 ‹_› ?_|refine qa4 ‹_› ?_|refine pkT ‹_› ?_|refine qax ‹_› ?_|refine qa9 ‹_› ?_|refine qbc ‹_› ?_|refine pkF ‹_› ?_|refine qar ‹_› ?_|refine qa5 (qcc ‹_›) ?_|refine qa4 (qcc ‹_›) ?_|refine pkT (qcc ‹_›) ?_|refine qax (qcc ‹_›) ?_|refine qav hC (pI) ?_|refine qav hC (qbn t5 w) ?_|refine qaq hS (by kernel_rfl) ?_);conv => whnf)
    exact ⟨(i + 1,tdV L (i + 1) 1,uxT L (i + 1)),⟨hi2,.inr ⟨Nat.succ_pos _,rfl,rfl⟩⟩,by show L.length - (i + 1) < L.length - i;omega,kle rfl,(zhg 2)⟩
  ·have eL:L.length = i :=by omega
   rw [eL] at gw
   try have z104:=qbk hiN
   try have z105:=qbf hiN
   repeat ((first|refine qa2 (nthP gw) ?_|refine qa5 ‹_› ?_|refine qa4 ‹_› ?_|refine pkT ‹_› ?_|refine qax ‹_› ?_|refine qa9 ‹_› ?_|refine qbc ‹_› ?_|refine pkF ‹_› ?_|refine qar ‹_› ?_|refine qaq hS (by kernel_rfl) ?_);conv => whnf)
   refine qbh hE hS (A :=Nat) [3,9,10,11,16] (fun p => [(5,.str w),(6,nv (valD (w.take p)))]) (fun p => [(2,.siter w p)]) (fun _ => []) (fun p => p ≤ w.length ∧ dgA w p ∧ (0 < p → w.length ≤ 3)) (fun p => w.length - p) 0 (kle rfl) rfl (zhg 3) ⟨Nat.zero_le _,fun _ h => absurd h (Nat.not_lt_zero _),fun h => absurd h (Nat.lt_irrefl _)⟩ ?_
   intro p ⟨hp,hA,h3⟩ K hK
   obtain rfl:K = 3 :=hK
   conv => whnf
   by_cases hp2:p < w.length
   ·have n0:decide (p < w.length) = true :=decide_eq_true hp2
    refine Or.elim (qlw hp2) (fun hg => ?_) fun hg => ?_
    ·have hd :=hg.2.2
     have t1:decide (Int.ofNat (Utf8.decode ⟨w.toArray⟩ p).1 ≥ 48) = true :=decide_eq_true (by rw [hd];have :=hg.1;simp only [Int.ofNat_eq_natCast];omega)
     have t2:decide (Int.ofNat (Utf8.decode ⟨w.toArray⟩ p).1 ≤ 57) = true :=decide_eq_true (by rw [hd];have :=hg.2.1;simp only [Int.ofNat_eq_natCast];omega)
     by_cases hl3:w.length ≤ 3
     ·have t3:decide ((w.length:Int) ≤ 3) = true :=decide_eq_true (by omega)
      have hV :=qi7 hd ⟨hg.1,hg.2.1⟩ hp2 (qhf hA hl3 (by omega))
      have eP:AObj.siter w (p + (Utf8.decode ⟨w.toArray⟩ p).2) = .siter w (p + 1) :=by rw [hd]
      repeat ((first|refine qa2 (nx_t n0) ?_|refine qa5 ‹_› ?_|refine qa4 ‹_› ?_|refine pkT ‹_› ?_|refine qax ‹_› ?_|refine qa5 (qcc ‹_›) ?_|refine qa4 (qcc ‹_›) ?_|refine pkT (qcc ‹_›) ?_|refine qax (qcc ‹_›) ?_|refine qav hC (qbn t3 w) ?_|refine qaq hS (by kernel_rfl) ?_);conv => whnf)
      exact ⟨p + 1,⟨hp2,fun j hj => (Nat.lt_succ_iff_lt_or_eq.1 hj).elim (hA j) fun e => by rw [e];exact ⟨hg.1,hg.2.1⟩,fun _ => hl3⟩,by omega,Nat.le_refl _,(zhg 3)⟩
     ·have t3:decide ((w.length:Int) ≤ 3) = false :=decide_eq_false (by omega)
      repeat ((first|refine qa2 (nx_t n0) ?_|refine qa5 ‹_› ?_|refine qa4 ‹_› ?_|refine pkT ‹_› ?_|refine qax ‹_› ?_|refine qa5 (qcc ‹_›) ?_|refine qa4 (qcc ‹_›) ?_|refine pkT (qcc ‹_›) ?_|refine qax (qcc ‹_›) ?_|refine qaq hS (by kernel_rfl) ?_);conv => whnf)
      refine qb0 hC ?_
      conv => whnf
      refine qb7 hS (qc5 t3 w) ?_
      conv => whnf
    ·have hn :=hg.2
     by_cases h1:48 ≤ (Utf8.decode ⟨w.toArray⟩ p).1
     ·have t1:decide (Int.ofNat (Utf8.decode ⟨w.toArray⟩ p).1 ≥ 48) = true :=decide_eq_true (by simp only [Int.ofNat_eq_natCast];omega)
      have t2:decide (Int.ofNat (Utf8.decode ⟨w.toArray⟩ p).1 ≤ 57) = false :=decide_eq_false (by simp only [Int.ofNat_eq_natCast];omega)
      repeat ((first|refine qa2 (nx_t n0) ?_|refine qa5 ‹_› ?_|refine qa4 ‹_› ?_|refine pkT ‹_› ?_|refine qax ‹_› ?_|refine qa9 ‹_› ?_|refine qbc ‹_› ?_|refine pkF ‹_› ?_|refine qar ‹_› ?_|refine qa5 (qcc ‹_›) ?_|refine qa4 (qcc ‹_›) ?_|refine pkT (qcc ‹_›) ?_|refine qax (qcc ‹_›) ?_|refine qa9 (qc8 ‹_›) ?_|refine qbc (qc8 ‹_›) ?_|refine pkF (qc8 ‹_›) ?_|refine qar (qc8 ‹_›) ?_|refine qaq hS (by kernel_rfl) ?_);conv => whnf)
      refine qb0 hC ?_
      conv => whnf
      refine qb7 hS (qgh w) ?_
      conv => whnf
     ·have t1:decide (Int.ofNat (Utf8.decode ⟨w.toArray⟩ p).1 ≥ 48) = false :=decide_eq_false (by simp only [Int.ofNat_eq_natCast];omega)
      repeat ((first|refine qa2 (nx_t n0) ?_|refine qa9 t1 ?_|refine qbc t1 ?_|refine pkF t1 ?_|refine qar t1 ?_|refine qa9 (qc8 t1) ?_|refine qbc (qc8 t1) ?_|refine pkF (qc8 t1) ?_|refine qar (qc8 t1) ?_|refine qaq hS (by kernel_rfl) ?_);conv => whnf)
      refine qb0 hC ?_
      conv => whnf
      refine qb7 hS (qgh w) ?_
      conv => whnf
   ·have hpE:p = w.length :=by omega
    have n0:decide (p < w.length) = false :=decide_eq_false hp2
    by_cases hw0:w = []
    ·have t4:(!(w == [])) = false :=by rw [hw0];rfl
     repeat ((first|refine qa2 (nx_f n0) ?_|refine qaq hS (by kernel_rfl) ?_);conv => whnf)
     refine .inl ?_
     conv => whnf
     repeat ((first|refine qa9 t4 ?_|refine qbc t4 ?_|refine pkF t4 ?_|refine qar t4 ?_|refine qa9 (qc8 t4) ?_|refine qbc (qc8 t4) ?_|refine pkF (qc8 t4) ?_|refine qar (qc8 t4) ?_|refine qaq hS (by kernel_rfl) ?_);conv => whnf)
     refine qb0 hC ?_
     conv => whnf
     refine qb7 hS (qgh w) ?_
     conv => whnf
    ·have hl3:w.length ≤ 3 :=h3 (by have :=List.length_pos_iff.2 hw0;omega)
     have pI :=qcz (qhf hA hl3 (p :=p) (by omega))
     have t4:(!(w == [])) = true :=by rw [beq_eq_false_iff_ne.2 hw0];rfl
     have t5:(dec (valD (w.take p)) == w) = false :=beq_eq_false_iff_ne.2 fun z => hbad ⟨valD (w.take p),qhf hA hl3 (by omega),z.symm⟩
     repeat ((first|refine qa2 (nx_f n0) ?_|refine qaq hS (by kernel_rfl) ?_);conv => whnf)
     refine .inl ?_
     conv => whnf
     repeat ((first|refine qa5 t4 ?_|refine qa4 t4 ?_|refine pkT t4 ?_|refine qax t4 ?_|refine qa5 (qcc t4) ?_|refine qa4 (qcc t4) ?_|refine pkT (qcc t4) ?_|refine qax (qcc t4) ?_|refine qav hC (pI) ?_|refine qaq hS (by kernel_rfl) ?_);conv => whnf)
     refine qb0 hC ?_
     conv => whnf
     refine qb7 hS (qc5 t5 w) ?_
     conv => whnf
end
end Go.Abs.Seat
namespace Go.Abs.Seat
noncomputable section
open Go Go.Abs Go.Proofs.Tryz
set_option maxRecDepth 100000
set_option maxHeartbeats 40000000
attribute [local irreducible] pEq
abbrev hpS3 (W0:AObj):Tr AObj :=.node W0 (.node (.cells (.node (.str [97,110,121]) (.node (.str [115,97,109,101]) .nil .nil) (.node (.str [111,116,104,101,114]) .nil .nil)) 3 143) .nil .nil) .nil
theorem qu0 (W0:AObj):HEnd (hpS3 W0) 2 :=qh3 [W0,.cells (.node (.str [97,110,121]) (.node (.str [115,97,109,101]) .nil .nil) (.node (.str [111,116,104,101,114]) .nil .nil)) 3 143] 0 .nil qgd
def snI (w:List UInt8):Int :=if w = [97,110,121] then 0 else if w = [115,97,109,101] then 1 else if w = [111,116,104,101,114] then 2 else -1
theorem qgu {W0:AObj} (b0:BdO 2 W0) (w:List UInt8):HFun prog 88 [.slc 1 0 3 3,.str w] (hv (hpS3 W0)) 2 (iv (snI w)) (hv (hpS3 W0)) :=by
 have hBd:ObBd 2 (hpS3 W0) 2 :=by
  repeat' (first|exact trivial|exact b0|exact Nat.zero_le _|exact kle rfl|apply And.intro)
 refine qu1 hE rfl (qu0 W0) (kle rfl) (Nat.zero_le _) hBd hBd fun S q pc hS hq hC hE => ?_
 by_cases h1:w = [97,110,121]
 ·have c1:(w == [97,110,121]) = true :=beq_iff_eq.2 h1
  rw [snI,if_pos h1]
  conv => whnf
  refine qa6 hE hS ?_
  conv => whnf
  repeat ((first|refine qa5 c1 ?_|refine qa4 c1 ?_|refine pkT c1 ?_|refine qax c1 ?_|refine qaq hS (by kernel_rfl) ?_);conv => whnf)
  exact ⟨_,rfl,WkV.refl _,rfl,rfl,trivial⟩
 have c1:(w == [97,110,121]) = false :=beq_eq_false_iff_ne.2 h1
 by_cases h2:w = [115,97,109,101]
 ·have c2:(w == [115,97,109,101]) = true :=beq_iff_eq.2 h2
  rw [snI,if_neg h1,if_pos h2]
  conv => whnf
  refine qa6 hE hS ?_
  conv => whnf
  repeat ((first|refine qa9 c1 ?_|refine qbc c1 ?_|refine pkF c1 ?_|refine qar c1 ?_|refine qaq hS (by kernel_rfl) ?_);conv => whnf)
  refine qa6 hE hS ?_
  conv => whnf
  repeat ((first|refine qa5 c2 ?_|refine qa4 c2 ?_|refine pkT c2 ?_|refine qax c2 ?_|refine qaq hS (by kernel_rfl) ?_);conv => whnf)
  exact ⟨_,rfl,WkV.refl _,rfl,rfl,trivial⟩
 have c2:(w == [115,97,109,101]) = false :=beq_eq_false_iff_ne.2 h2
 by_cases h3:w = [111,116,104,101,114]
 ·have c3:(w == [111,116,104,101,114]) = true :=beq_iff_eq.2 h3
  rw [snI,if_neg h1,if_neg h2,if_pos h3]
  conv => whnf
  refine qa6 hE hS ?_
  conv => whnf
  repeat ((first|refine qa9 c1 ?_|refine qbc c1 ?_|refine pkF c1 ?_|refine qar c1 ?_|refine qaq hS (by kernel_rfl) ?_);conv => whnf)
  refine qa6 hE hS ?_
  conv => whnf
  repeat ((first|refine qa9 c2 ?_|refine qbc c2 ?_|refine pkF c2 ?_|refine qar c2 ?_|refine qaq hS (by kernel_rfl) ?_);conv => whnf)
  refine qa6 hE hS ?_
  conv => whnf
  repeat ((first|refine qa5 c3 ?_|refine qa4 c3 ?_|refine pkT c3 ?_|refine qax c3 ?_|refine qaq hS (by kernel_rfl) ?_);conv => whnf)
  exact ⟨_,rfl,WkV.refl _,rfl,rfl,trivial⟩
 have c3:(w == [111,116,104,101,114]) = false :=beq_eq_false_iff_ne.2 h3
 rw [snI,if_neg h1,if_neg h2,if_neg h3]
 conv => whnf
 refine qa6 hE hS ?_
 conv => whnf
 repeat ((first|refine qa9 c1 ?_|refine qbc c1 ?_|refine pkF c1 ?_|refine qar c1 ?_|refine qaq hS (by kernel_rfl) ?_);conv => whnf)
 refine qa6 hE hS ?_
 conv => whnf
 repeat ((first|refine qa9 c2 ?_|refine qbc c2 ?_|refine pkF c2 ?_|refine qar c2 ?_|refine qaq hS (by kernel_rfl) ?_);conv => whnf)
 refine qa6 hE hS ?_
 conv => whnf
 repeat ((first|refine qa9 c3 ?_|refine qbc c3 ?_|refine pkF c3 ?_|refine qar c3 ?_|refine qaq hS (by kernel_rfl) ?_);conv => whnf)
 refine qa6 hE hS ?_
 conv => whnf
 repeat ((first|refine qaq hS (by kernel_rfl) ?_);conv => whnf)
 exact ⟨_,rfl,WkV.refl _,rfl,rfl,trivial⟩
theorem ob2S {h h':Tr AObj} (e:ObEq h h' 2):∀ i,i < 2 → hv h i = hv h' i :=e.lt
end
end Go.Abs.Seat
