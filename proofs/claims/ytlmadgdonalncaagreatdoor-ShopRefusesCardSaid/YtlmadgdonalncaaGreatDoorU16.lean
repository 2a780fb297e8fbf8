/-
  Books of accounts: the earlier of two settlements, the best of some.
-/
import Derived.Test.YtlmadgdonalncaaGreatDoorB58
import Derived.Test.YtlmadgdonalncaaGreatDoorU7
import Derived.Test.YtlmadgdonalncaaGreatDoorU8
import Derived.Test.YtlmadgdonalncaaGreatDoorU15
import Derived.Test.YtlmadgdonalncaaGreatDoorT44
namespace Go.Abs.Seat
noncomputable section
open Go Go.Abs Go.Proofs.Tryz
set_option maxRecDepth 100000
set_option maxHeartbeats 40000000
attribute [local irreducible] IntKind.wrap pEq
theorem qyf (a b:Int):ordI a b < 0 ↔ a < b :=by unfold ordI;split <;> (try split) <;> omega
theorem qwn (a b:Int):ordI a b = 0 ↔ a = b :=by unfold ordI;split <;> (try split) <;> omega
def btP (a b:List Int):Prop :=a.length < b.length ∨ a.length = b.length ∧ lexI a b < 0
instance (a b:List Int):Decidable (btP a b) :=inferInstanceAs (Decidable (_ ∨ _))
theorem qn1 (a b:List Int) (ha:a.length ≤ 1000) (hb:b.length ≤ 1000):Pure prog 80 [sv a,sv b] (.bool (decide (btP a b))) :=by
 have pL :=qz5 a b (by omega) (by omega)
 have e:decide (btP a b) = decide ((if ordI (a.length:Int) (b.length:Int) = 0 then lexI a b else ordI (a.length:Int) (b.length:Int)) < 0) :=by
  refine decide_eq_decide.2 ?_
  unfold btP
  by_cases z:ordI (a.length:Int) (b.length:Int) = 0
  ·rw [if_pos z]
   have :=(qwn _ _).1 z
   omega
  ·rw [if_neg z,qyf]
   have:(a.length:Int) ≠ b.length :=fun k => z ((qwn _ _).2 k)
   omega
 rw [e]
 cases a with
 |nil =>
  cases b with
  |nil =>
   refine qan hE rfl (by repeat' first|exact trivial|assumption|exact qaf _|exact fun _ h => nomatch h|apply And.intro) (by repeat' first|exact trivial|assumption|exact qaf _|exact fun _ h => nomatch h|apply And.intro) fun S q pc hS hq hC hE => ?_
   conv => whnf
   refine qac hC (qbf 0 0) ?_
   conv => whnf
   refine qac hC (pL) ?_
   conv => whnf
   refine qac hC (qkm (ordI 0 0) (lexI [] [])) ?_
   conv => whnf
   exact ⟨_,rfl,Wk.refl _⟩
  |cons y m =>
   have lB :=qat (y :: m)
   have pC :=qbf 0 ((y :: m).length:Int)
   have pO :=qkm (ordI 0 ((y :: m).length:Int)) (lexI [] (y :: m))
   refine qan hE rfl (by repeat' first|exact trivial|assumption|exact qaf _|exact fun _ h => nomatch h|apply And.intro) (by repeat' first|exact trivial|assumption|exact qaf _|exact fun _ h => nomatch h|apply And.intro) fun S q pc hS hq hC hE => ?_
   conv => whnf
   refine qac hC (pC) ?_
   conv => whnf
   refine qac hC (pL) ?_
   conv => whnf
   refine qac hC (pO) ?_
   conv => whnf
   exact ⟨_,rfl,Wk.refl _⟩
 |cons x l =>
  have lA :=qat (x :: l)
  cases b with
  |nil =>
   have pC :=qbf ((x :: l).length:Int) 0
   have pO :=qkm (ordI ((x :: l).length:Int) 0) (lexI (x :: l) [])
   refine qan hE rfl (by repeat' first|exact trivial|assumption|exact qaf _|exact fun _ h => nomatch h|apply And.intro) (by repeat' first|exact trivial|assumption|exact qaf _|exact fun _ h => nomatch h|apply And.intro) fun S q pc hS hq hC hE => ?_
   conv => whnf
   refine qac hC (pC) ?_
   conv => whnf
   refine qac hC (pL) ?_
   conv => whnf
   refine qac hC (pO) ?_
   conv => whnf
   exact ⟨_,rfl,Wk.refl _⟩
  |cons y m =>
   have lB :=qat (y :: m)
   have pC :=qbf ((x :: l).length:Int) ((y :: m).length:Int)
   have pO :=qkm (ordI ((x :: l).length:Int) ((y :: m).length:Int)) (lexI (x :: l) (y :: m))
   refine qan hE rfl (by repeat' first|exact trivial|assumption|exact qaf _|exact fun _ h => nomatch h|apply And.intro) (by repeat' first|exact trivial|assumption|exact qaf _|exact fun _ h => nomatch h|apply And.intro) fun S q pc hS hq hC hE => ?_
   conv => whnf
   refine qac hC (pC) ?_
   conv => whnf
   refine qac hC (pL) ?_
   conv => whnf
   refine qac hC (pO) ?_
   conv => whnf
   exact ⟨_,rfl,Wk.refl _⟩
theorem qqe (x y:AV) (lx:Live noL x) (ly:Live noL y) (a b:Int) (hx:x = .nils ∨ ∃ l,x = nl l) (hy:y = .nils ∨ ∃ l,y = nl l):Pure prog 76 [.agg [x,iv a],.agg [y,iv b]] (.bool (decide (a < b))) :=by
 rcases hx with rfl | ⟨l,rfl⟩ <;> rcases hy with rfl | ⟨m,rfl⟩
 all_goals
  refine qan hE rfl (by repeat' first|exact trivial|assumption|exact qaf _|exact fun _ h => nomatch h|apply And.intro) (by repeat' first|exact trivial|assumption|exact qaf _|exact fun _ h => nomatch h|apply And.intro) fun S q pc hS hq hC hE => ?_
  conv => whnf
  exact ⟨_,rfl,Wk.refl _⟩
def bsI:List Int → List (List Int) → List Int
 |x,[] => x
 |x,y :: r => bsI (if btP y x then y else x) r
theorem qnx (l:List (List Int)) {i:Nat} (h:i < l.length):l.drop i = gs l i :: l.drop (i + 1) :=by
 rw [List.drop_eq_getElem_cons h]
 simp [gs,List.getD,h]
theorem qp2 {x:List Int} (h:x ≠ []):sv x = nl x :=by
 cases x with
 |nil => exact absurd rfl h
 |cons _ _ => rfl
def SVv (v:AV) (o:List Int):Prop :=v = .nils ∧ o = [] ∨ v = nl o ∧ o ≠ []
theorem SVv.eq {v:AV} {o:List Int} (h:SVv v o):v = sv o :=by
 rcases h with ⟨rfl,rfl⟩ | ⟨rfl,h⟩
 ·rfl
 ·rw [qp2 h]
theorem SVv.of (o:List Int):∃ v,SVv v o :=by
 by_cases h:o = []
 ·exact ⟨.nils,.inl ⟨rfl,h⟩⟩
 ·exact ⟨nl o,.inr ⟨rfl,h⟩⟩
theorem qqx {x:List Int} {r:List (List Int)} (hl:r.length ≤ 1073741824) (hx:∀ y,y ∈ x :: r → y.length ≤ 1000):Pure prog 79 [.lst (svs (x :: r)) (x :: r).length .no,.func (.func 80) [] []] (.tup [sv (bsI x r),.bool true]) :=by
 have lv :=qa4 (x :: r)
 have lb :=qrc (bsI x r)
 obtain ⟨l,hle⟩ : ∃ l,l = x :: r :=⟨_,rfl⟩
 have hxl :=hx x (List.mem_cons_self ..)
 rw [← hle] at hx lv ⊢
 have hll:1 ≤ l.length ∧ l.length ≤ 1073741825 :=by rw [hle,List.length_cons];omega
 have hg0:gs l 0 = x :=by rw [hle];rfl
 have hd0:l.drop 1 = r :=by rw [hle];rfl
 refine qan hE rfl (by repeat' first|exact trivial|assumption|exact qaf _|exact fun _ h => nomatch h|apply And.intro) (by repeat' first|exact trivial|assumption|exact qaf _|exact fun _ h => nomatch h|apply And.intro) fun S q pc hS hq hC hE => ?_
 conv => whnf
 refine qaw hE hS (A :=Nat × AV) [0,1,9,10] (fun (i,v) => [(6,v),(11,nv i)]) (fun _ => []) (fun _ => []) (fun (i,v) => i ≤ l.length ∧ (i = 0 ∧ v = .nils ∨ 1 ≤ i ∧ ∃ o,SVv v o ∧ o.length ≤ 1000 ∧ bsI o (l.drop i) = bsI x r)) (fun (i,_) => l.length - i) (0,.nils) (kle rfl) rfl (zhg 0) ⟨Nat.zero_le _,.inl ⟨rfl,rfl⟩⟩ ?_
 rintro ⟨i,v⟩ ⟨hi,hv⟩ K hK
 obtain rfl:K = 0 :=hK
 have hi1:i < l.length → IntKind.i64.wrap (Int.ofNat i + 1) = Int.ofNat (i + 1) :=fun h => qa1 (m :=i + 1) (by omega)
 rcases hv with ⟨rfl,rfl⟩ | ⟨h1,o,hv0,ho,hb⟩
 ·have h0:0 < l.length :=by omega
  have hi1 :=hi1 h0
  have hn :=qcw h0
  rw [hg0] at hn
  obtain ⟨w,hw⟩ :=SVv.of x
  have hw0 :=hw
  rw [← hw.eq] at hn
  rcases hw with ⟨rfl,hx0⟩ | ⟨rfl,hx0⟩
  all_goals
   conv => whnf
   try have z152:=qau h0
   try have z153:=qal h0
   repeat ((first|refine qae (nthP hn) ?_|refine qak ‹_› ?_|refine qaj ‹_› ?_|refine pkT ‹_› ?_|refine qaa ‹_› ?_|refine qap ‹_› ?_|refine qaq ‹_› ?_|refine pkF ‹_› ?_|refine qab ‹_› ?_|refine qad hS (by kernel_rfl) ?_);conv => whnf)
   exact ⟨(1,_),⟨hll.1,.inr ⟨Nat.le_refl _,x,hw0,hxl,by rw [hd0]⟩⟩,Nat.sub_lt_sub_left h0 Nat.one_pos,Nat.le_refl _,(zhg 0)⟩
 ·have hv1 :=hv0
  rcases hv1 with ⟨rfl,ho0⟩ | ⟨rfl,ho0⟩
  all_goals
   conv => whnf
   by_cases hi2:i < l.length
   ·have hi1 :=hi1 hi2
    have hgl :=hx _ (qie _ hi2)
    have c0:(Int.ofNat i == 0) = false :=beq_eq_false_iff_ne.2 fun z => by have:(i:Int) = 0 :=z;omega
    have hn :=qcw hi2
    rw [qnx l hi2,bsI] at hb
    obtain ⟨w,hw⟩ :=SVv.of (gs l i)
    have pE :=qn1 (gs l i) o hgl ho
    rw [← hw.eq,← hv0.eq] at pE
    rw [← hw.eq] at hn
    generalize gs l i = g at *
    rcases hw with ⟨rfl,hg⟩ | ⟨rfl,hg⟩
    all_goals
     by_cases he:btP g o
     ·rw [decide_eq_true he] at pE
      rw [if_pos he] at hb
      try have z154:=qau hi2
      try have z155:=qal hi2
      repeat ((first|refine qae (nthP hn) ?_|refine qak ‹_› ?_|refine qaj ‹_› ?_|refine pkT ‹_› ?_|refine qaa ‹_› ?_|refine qap ‹_› ?_|refine qaq ‹_› ?_|refine pkF ‹_› ?_|refine qab ‹_› ?_|refine qak (gff ‹_›) ?_|refine qaj (gff ‹_›) ?_|refine pkT (gff ‹_›) ?_|refine qaa (gff ‹_›) ?_|refine qac hC (pE) ?_|refine qad hS (by kernel_rfl) ?_);conv => whnf)
      exact ⟨(i + 1,_),⟨hi2,.inr ⟨by omega,_,by first|exact .inl ⟨rfl,hg⟩|exact .inr ⟨rfl,hg⟩,hgl,hb⟩⟩,by show l.length - (i + 1) < l.length - i;omega,Nat.le_refl _,(zhg 0)⟩
     ·rw [decide_eq_false he] at pE
      rw [if_neg he] at hb
      try have z156:=qau hi2
      try have z157:=qal hi2
      repeat ((first|refine qae (nthP hn) ?_|refine qak ‹_› ?_|refine qaj ‹_› ?_|refine pkT ‹_› ?_|refine qaa ‹_› ?_|refine qap ‹_› ?_|refine qaq ‹_› ?_|refine pkF ‹_› ?_|refine qab ‹_› ?_|refine qak (gff ‹_›) ?_|refine qaj (gff ‹_›) ?_|refine pkT (gff ‹_›) ?_|refine qaa (gff ‹_›) ?_|refine qac hC (pE) ?_|refine qad hS (by kernel_rfl) ?_);conv => whnf)
      exact ⟨(i + 1,_),⟨hi2,.inr ⟨by omega,o,hv0,ho,hb⟩⟩,by show l.length - (i + 1) < l.length - i;omega,Nat.le_refl _,(zhg 0)⟩
   ·refine qab (qa6 hi2) ?_
    conv => whnf
    refine .inl ?_
    conv => whnf
    rw [List.drop_eq_nil_of_le (by omega),bsI] at hb
    rw [← hb,← hv0.eq]
    rw [decide_eq_true (show (l.length:Int) > 0 by omega)]
    exact ⟨_,rfl,Wk.refl _⟩
end
end Go.Abs.Seat
namespace Go.Abs.Seat
noncomputable section
open Go Go.Abs Go.Proofs.Tryz
set_option maxRecDepth 100000
set_option maxHeartbeats 4000000
theorem btP.trans {a b c:List Int} (h:btP a b) (k:btP b c):btP a c :=by
 rcases h with h | ⟨h1,h2⟩
 ·rcases k with k | ⟨k1,_⟩
  ·exact .inl (by omega)
  ·exact .inl (by omega)
 ·rcases k with k | ⟨k1,k2⟩
  ·exact .inl (by omega)
  ·exact .inr ⟨by omega,qgp h2 k2⟩
theorem btP.irr {a:List Int}:¬ btP a a :=fun h => by
 rcases h with h | h
 ·omega
 ·have :=qed a a
  have :=h.2
  omega
theorem btP.tot {a b:List Int} (h:¬ btP a b) (k:¬ btP b a):a = b :=by
 have e:a.length = b.length :=by
  have h1:¬ a.length < b.length :=fun z => h (.inl z)
  have k1:¬ b.length < a.length :=fun z => k (.inl z)
  omega
 have h1:¬ lexI a b < 0 :=fun z => h (.inr ⟨e,z⟩)
 have k1:¬ lexI b a < 0 :=fun z => k (.inr ⟨e.symm,z⟩)
 have :=qed a b
 exact qsy (by omega)
theorem qpx:∀ (r:List (List Int)) (x:List Int),(bsI x r = x ∨ bsI x r ∈ r) ∧ ∀ z,z = x ∨ z ∈ r → ¬ btP z (bsI x r)
 | [],x => ⟨.inl rfl,fun z hz => by
  rcases hz with rfl | hz
  ·exact btP.irr
  ·cases hz⟩
 |y :: r,x => by
  have ih :=qpx r (if btP y x then y else x)
  rw [bsI]
  refine ⟨?_,fun z hz => ?_⟩
  ·rcases ih.1 with e | e
   ·rw [e]
    split
    ·exact .inr (List.mem_cons_self ..)
    ·exact .inl rfl
   ·exact .inr (List.mem_cons_of_mem _ e)
  ·by_cases h:btP y x
   ·rw [if_pos h] at ih ⊢
    rcases hz with rfl | hz
    ·exact fun k => ih.2 y (.inl rfl) (h.trans k)
    ·rcases List.mem_cons.1 hz with rfl | hz
     ·exact ih.2 _ (.inl rfl)
     ·exact ih.2 z (.inr hz)
   ·rw [if_neg h] at ih ⊢
    rcases hz with rfl | hz
    ·exact ih.2 _ (.inl rfl)
    ·rcases List.mem_cons.1 hz with rfl | hz
     ·intro k
      have hx :=ih.2 x (.inl rfl)
      by_cases k3:btP x z
      ·exact hx (k3.trans k)
      ·have e3 :=btP.tot h k3
       rw [e3] at k
       exact hx k
     ·exact ih.2 z (.inr hz)
end
end Go.Abs.Seat
namespace Go.Abs.Seat
noncomputable section
open Go Go.Abs Go.Proofs.Tryz
set_option maxRecDepth 100000
set_option maxHeartbeats 40000000
attribute [local irreducible] IntKind.wrap pEq
def WkVs:List AV → List AV → Prop
 | [],[] => True
 |x :: xs,y :: ys => WkV x y ∧ WkVs xs ys
 | _,_ => False
theorem WkVs.refl:∀ xs,WkVs xs xs
 | [] => trivial
 |x :: xs => ⟨WkV.refl x,WkVs.refl xs⟩
theorem WkVs.app:∀ {xs ys zs ws:List AV},WkVs xs ys → WkVs zs ws → WkVs (xs ++ zs) (ys ++ ws)
 | [],[],_,_,_,h => h
 | _ :: _,_ :: _,_,_,h,k => ⟨h.1,WkVs.app h.2 k⟩
theorem WkVs.len:∀ {xs ys:List AV},WkVs xs ys → xs.length = ys.length
 | [],[],_ => rfl
 | _ :: _,_ :: _,h => by rw [List.length_cons,List.length_cons,WkVs.len h.2]
theorem WkVs.cells {g:Gh} {w:World}:∀ {xs ys:List AV} (b off:Nat),WkVs xs ys → LRel g w xs b off → LRel g w ys b off
 | [],[],_,_,_,h => h
 | _ :: _,_ :: _,b,off,k,h => by
  obtain ⟨⟨u,hu,hv⟩,hr⟩ :=h
  exact ⟨⟨u,hu,k.1.wk _ _ _ hv⟩,WkVs.cells b (off + 1) k.2 hr⟩
theorem WkVs.live {L:Nat → Prop}:∀ {xs ys:List AV},WkVs xs ys → Lives L xs → Lives L ys
 | [],[],_,h => h
 | _ :: _,_ :: _,k,h => ⟨k.1.lv _ h.1,WkVs.live k.2 h.2⟩
theorem WkVs.lst {xs ys:List AV} (h:WkVs xs ys) (n:Nat) (own:Own):WkV (.lst xs n own) (.lst ys n own) :=by
 refine ⟨fun g w u hu => ?_,fun L hl => ⟨h.live hl.1,hl.2⟩⟩
 simp only [VRel] at hu ⊢
 obtain ⟨b,off,cap,h1,h2,h3,h4,h5⟩ :=hu
 exact ⟨b,off,cap,h1,h2,by rw [← h.len];exact h3,h.cells b off h4,h5⟩
theorem _root_.Go.Abs.WkV.trans {a b c:AV} (h:WkV a b) (k:WkV b c):WkV a c :=⟨fun _ _ _ hu => k.wk _ _ _ (h.wk _ _ _ hu),fun _ hl => k.lv _ (h.lv _ hl)⟩
def lV (l:List (List Int)):AV :=if l = [] then .nils else sl l
theorem qz6 (l:List (List Int)):Live noL (lV l) :=by
 unfold lV
 split
 ·trivial
 ·exact ⟨qa4 l,fun _ h => nomatch h⟩
theorem qkr:∀ (k m a:Nat),(lsts m a k).length ≤ 2 ^ k :=by
 intro k
 induction k with
 |zero => intro m a;cases m <;> simp [lsts]
 |succ k ih =>
  intro m a
  cases m with
  |zero => rw [lsts];exact Nat.one_le_two_pow
  |succ m =>
   rw [lsts,List.length_append,List.length_map,Nat.pow_succ]
   have :=ih m (a + 1)
   have :=ih (m + 1) (a + 1)
   omega
theorem qh5 (a k:Nat):lsts 0 a k = [[]] :=by rw [lsts]
theorem qf2 (m a k:Nat):lsts (m + 1) a (k + 1) = (lsts m (a + 1) k).map (Int.ofNat a :: ·) ++ lsts (m + 1) (a + 1) k :=by rw [lsts]
theorem qpb (a k:Nat):lsts 1 a (k + 1) = [Int.ofNat a] :: lsts 1 (a + 1) k :=by rw [qf2,qh5];rfl
theorem qf3 (m a:Nat):lsts (m + 1) a 0 = [] :=by rw [lsts]
theorem qjn (M:List (List Int)) (q:List Int) {v:AV} (e:WkV v (sv q)) (c:Nat):WkV (AV.lst (svs M ++ [v]) (M.length + (0 + 1)) (.ch c)) (.lst (svs (M ++ [q])) (M ++ [q]).length (.ch c)) :=by
 rw [qxt,List.length_append]
 exact WkVs.lst (xs :=svs M ++ [v]) (ys :=svs M ++ [sv q]) (WkVs.app (zs :=[v]) (WkVs.refl _) ⟨e,trivial⟩) _ _
theorem qgu (q:List Int) {v:AV} (e:WkV v (sv q)) (c:Nat):WkV (AV.lst [v] (0 + 1) (.ch c)) (.lst (svs [q]) [q].length (.ch c)) :=WkVs.lst (xs :=[v]) (ys :=svs [q]) ⟨e,trivial⟩ _ _
theorem qly {m a k i:Nat} (h:i < (lsts (m + 1) a k).length):∃ x r,gs (lsts (m + 1) a k) i = x :: r ∧ r.length = m :=by
 have :=((qdq _ _ _ _).1 (qie _ h)).1
 cases e:gs (lsts (m + 1) a k) i with
 |nil => rw [e] at this;cases this
 |cons x r => rw [e] at this;exact ⟨x,r,rfl,by simpa using this⟩
theorem qjt (n:Int) (L:List (List Int)) {i:Nat} (h:i < L.length):(L.take (i + 1)).map (n :: ·) = (L.take i).map (n :: ·) ++ [n :: gs L i] :=by rw [qxo L h,List.map_append];rfl
theorem qy7 (n x:Int) (r:List Int) (c:Nat):WkV (.lst (iv n :: ivs (x :: r)) (0 + 1 + (r.length + 1)) (.ch c)) (sv (n :: x :: r)) :=by
 rw [show 0 + 1 + (r.length + 1) = r.length + 1 + 1 by omega]
 exact WkV.own (ivs (n :: x :: r)) _ _
theorem qhq {S:Sub} {c:Code} {f:AS → KE → Prop} {s:AS} {K:KE} (h:∀ K0:KE,(∀ e s',K e s' → K0 e s') → S.loop c f s K0):S.loop c f s K :=h K fun _ _ h => h
def gnS (s:Nat):Nat → List Int
 | 0 => []
 |i + 1 => gnS s i ++ if (s >>> i) % 2 = 1 then [Int.ofNat i] else []
def lfS (J:List LkI) (s:Nat):Nat → List LkI
 | 0 => []
 |i + 1 => lfS J s i ++ if (s >>> i) % 2 = 1 then [] else [gL J i]
theorem qif (J:List LkI) (s:Nat):∀ i,(gnS s i).length + (lfS J s i).length = i
 | 0 => rfl
 |i + 1 => by
  have :=qif J s i
  rw [gnS,lfS,List.length_append,List.length_append]
  split
  ·simp only [List.length_nil,List.length_cons];omega
  ·simp only [List.length_nil,List.length_cons];omega
theorem qef (s i:Nat):(gnS s i).length ≤ i :=by have :=qif [] s i;omega
theorem qec (J:List LkI) (s i:Nat):(lfS J s i).length ≤ i :=by have :=qif J s i;omega
theorem qsx (J:List LkI) (s:Nat):∀ {i:Nat} {x:LkI},x ∈ lfS J s i → ∃ j,j < i ∧ x = gL J j
 | 0,_,h => nomatch h
 |i + 1,x,h => by
  rw [lfS] at h
  rcases List.mem_append.1 h with h | h
  ·obtain ⟨j,h1,h2⟩ :=qsx J s h
   exact ⟨j,by omega,h2⟩
  ·split at h
   ·exact nomatch h
   ·exact ⟨i,by omega,List.mem_singleton.1 h⟩
theorem qyx {X:List LkI} {j:Nat} (h:j < X.length):gL X j ∈ X :=by
 simp only [gL,List.getD,List.getElem?_eq_getElem h,Option.getD_some]
 exact List.getElem_mem h
theorem qia {J X:List LkI} {s:Nat} (hJ:areJ J) (hX:X = lfS J s J.length) (h0:X ≠ []):areJ X :=by
 have hl :=qec J s J.length
 rw [← hX] at hl
 refine ⟨⟨Nat.pos_of_ne_zero fun z => h0 (List.length_eq_zero_iff.1 z),Nat.le_trans hl hJ.1.2⟩,fun j hj => ?_⟩
 have hm:gL X j ∈ lfS J s J.length :=by rw [← hX];exact qyx hj
 obtain ⟨k,h1,h2⟩ :=qsx J s hm
 rw [h2]
 exact hJ.2 k h1
def okRf (W J:List LkI) (s:Nat):Prop :=lfS J s J.length = [] ∨ plL W (lfS J s J.length) ≠ []
instance (W J:List LkI) (s:Nat):Decidable (okRf W J s) :=Classical.propDecidable _
def alG (W J:List LkI) (s:Nat):List (List Int) :=((List.range s).filter fun t => decide (okRf W J t)).map fun t => gnS t J.length
theorem qc1 (W J:List LkI) (s:Nat):alG W J (s + 1) = alG W J s ++ if okRf W J s then [gnS s J.length] else [] :=by
 unfold alG
 rw [List.range_succ,List.filter_append,List.map_append]
 by_cases h:okRf W J s
 ·simp [h]
 ·simp [h]
theorem qn5 (W J:List LkI) (s:Nat):(alG W J s).length ≤ s :=by
 unfold alG
 rw [List.length_map]
 have :=List.length_filter_le (fun t => decide (okRf W J t)) (List.range s)
 rwa [List.length_range] at this
abbrev giC (G:List Int) (c:Nat):AV :=.lst (ivs G) G.length (.ch c)
abbrev ljC (X:List LkI) (c:Nat):AV :=.lst (lks X) X.length (.ch c)
abbrev svC (A:List (List Int)) (c:Nat):AV :=.lst (svs A) A.length (.ch c)
theorem qfh (l:List Int) {c n:Nat} (h:c + 1 ≤ n):bd (giC l c) ≤ n :=Nat.max_le.2 ⟨h,qag (qat _)⟩
theorem qc5 (l:List (List Int)) {c n:Nat} (h:c + 1 ≤ n):bd (svC l c) ≤ n :=Nat.max_le.2 ⟨h,qag (qa4 _)⟩
def grR (m:Nat) (G:List Int) (X:List LkI) (v w:AV) (ux:List AObj):Prop :=
 (G = [] ∧ X = [] ∧ v = .nils ∧ w = .nils ∧ ux = []) ∨ (G ≠ [] ∧ X = [] ∧ v = giC G m ∧ w = .nils ∧ ux = [.chain G.length 1 3]) ∨
 (G = [] ∧ X ≠ [] ∧ v = .nils ∧ w = ljC X m ∧ ux = [.chain X.length 3 53]) ∨ (G ≠ [] ∧ X ≠ [] ∧ v = giC G m ∧ w = ljC X (m + 1) ∧ ux = [.chain G.length 1 3,.chain X.length 3 53])
def grG (l:List (List Int)) (v:AV) (ux:List AObj):Prop :=l = [] ∧ v = .nils ∧ ux = [] ∨ l ≠ [] ∧ v = svC l 0 ∧ ux = [.chain l.length 1 24]
theorem rnI7 {m:Nat} {rs:List Nat} {l:List Int} {x:Int} {j c e:Nat} (hj:j < rs.length) (h1:rs.getD j 0 = c) (h2:e = m + j):RnV m rs (.lst (ivs l ++ [iv x]) (l.length + (0 + 1)) (.ch c)) (giC (l ++ [x]) e) :=by
 have:giC (l ++ [x]) e = .lst (ivs l ++ [iv x]) (l.length + (0 + 1)) (.ch e) :=by
  unfold giC
  rw [qfp,List.length_append];rfl
 rw [this]
 exact RnV.ch hj h1 h2 (qag (Lives.append (qat l) (show Lives noL [iv x] from ⟨trivial,trivial⟩)))
theorem q00 {m:Nat} {rs:List Nat} {x:Int} {j c e:Nat} (hj:j < rs.length) (h1:rs.getD j 0 = c) (h2:e = m + j):RnV m rs (.lst [iv x] (0 + 1) (.ch c)) (giC [x] e) :=rnI7 (l :=[]) hj h1 h2
theorem rnE7 {m:Nat} {rs:List Nat} {l:List LkI} {x y z:Int} {j c e:Nat} (hj:j < rs.length) (h1:rs.getD j 0 = c) (h2:e = m + j):RnV m rs (.lst (lks l ++ [iv x,iv y,iv z]) (l.length + (0 + 1)) (.ch c)) (ljC (l ++ [(x,y,z)]) e) :=by
 have:ljC (l ++ [(x,y,z)]) e = .lst (lks l ++ [iv x,iv y,iv z]) (l.length + (0 + 1)) (.ch e) :=by
  unfold ljC
  rw [qh8,List.length_append];rfl
 rw [this]
 exact RnV.ch hj h1 h2 (qag (Lives.append (qa0 l) (show Lives noL [iv x,iv y,iv z] from ⟨trivial,trivial,trivial,trivial⟩)))
theorem qzp {m:Nat} {rs:List Nat} {x y z:Int} {j c e:Nat} (hj:j < rs.length) (h1:rs.getD j 0 = c) (h2:e = m + j):RnV m rs (.lst [iv x,iv y,iv z] (0 + 1) (.ch c)) (ljC [(x,y,z)] e) :=rnE7 (l :=[]) hj h1 h2
theorem qte (l:List Int) (x:Int) {ty:Nat}:AObj.chain (l.length + (0 + 1)) 1 ty = .chain (l ++ [x]).length 1 ty :=by rw [List.length_append];rfl
theorem qsw (l:List LkI) (x:LkI) {ty:Nat}:AObj.chain (l.length + (0 + 1)) 3 ty = .chain (l ++ [x]).length 3 ty :=by rw [List.length_append];rfl
theorem qua (l:List (List Int)) (x:List Int) {ty:Nat}:AObj.chain (l.length + (0 + 1)) 1 ty = .chain (l ++ [x]).length 1 ty :=by rw [List.length_append];rfl
theorem qew:∀ l:List Int,qby (ivs l) (l.length * 1) = true
 | [] => rfl
 | _ :: r => qew r
theorem qf4 (l:List LkI):qby (lks l) (l.length * 3) = true :=by
 induction l with
 |nil => rfl
 |cons x r ih => rw [List.length_cons,show (r.length + 1) * 3 = r.length * 3 + 1 + 1 + 1 by omega];exact ih
theorem shl7 {m:Nat} (h:m ≤ 6):IntKind.i64.wrap (1 * 2 ^ min (Int.toNat (m:Int)) IntKind.i64.bits) = Int.ofNat (2 ^ m) :=by
 have e:(1 * 2 ^ min (Int.toNat (m:Int)) IntKind.i64.bits:Int) = Int.ofNat (2 ^ m) :=by
  have:m = 0 ∨ m = 1 ∨ m = 2 ∨ m = 3 ∨ m = 4 ∨ m = 5 ∨ m = 6 :=by omega
  rcases this with rfl | rfl | rfl | rfl | rfl | rfl | rfl <;> rfl
 rw [e]
 have:2 ^ m ≤ 2 ^ 6 :=Nat.pow_le_pow_right (by decide) h
 exact qa1 (by omega)
def btx7 (s i:Nat):Bool :=(IntKind.i64.wrap ↑(BitVec.ofInt IntKind.i64.bits ((Int.ofNat s).fdiv (2 ^ min (Int.ofNat i).toNat IntKind.i64.bits)) &&& BitVec.ofInt IntKind.i64.bits 1).toNat == 1)
theorem qzd:((List.range 64).all fun s => (List.range 7).all fun i => btx7 s i == decide ((s >>> i) % 2 = 1)) = true :=by decide +kernel
theorem bt7 {s i:Nat} (hs:s < 64) (hi:i < 7) {c:Bool} (hc:decide ((s >>> i) % 2 = 1) = c):(IntKind.i64.wrap ↑(BitVec.ofInt IntKind.i64.bits ((Int.ofNat s).fdiv (2 ^ min (Int.ofNat i).toNat IntKind.i64.bits)) &&& BitVec.ofInt IntKind.i64.bits 1).toNat == 1) = c :=by
 have :=List.all_eq_true.1 (List.all_eq_true.1 qzd s (List.mem_range.2 hs)) i (List.mem_range.2 hi)
 exact (beq_iff_eq.1 this).trans hc
theorem qco {f:FuncId} {xs ys:List AV} {v:AV} (h:wkl xs = ys) (p:Pure prog f ys v):Pure prog f (wkl xs) v :=h ▸ p
theorem qgx (W X:List LkI) (c:Nat):wkl [lkA W,ljC X c] = [lkA W,lkA X] :=by
 show [AV.lst (wkl (lks W)) W.length .no,.lst (wkl (lks X)) X.length .no] = _
 rw [qjp,qjp]
theorem qz4:((List.range 7).all fun m => (List.range m).all fun i => decide (((2 ^ m - 1) >>> i) % 2 = 1)) = true :=by decide +kernel
theorem qz3 {J:List LkI} (h:J.length ≤ 6):lfS J (2 ^ J.length - 1) J.length = [] :=by
 have key:∀ i,i ≤ J.length → lfS J (2 ^ J.length - 1) i = [] :=by
  intro i
  induction i with
  |zero => exact fun _ => rfl
  |succ i ih =>
   intro hi
   have h1 :=List.all_eq_true.1 (List.all_eq_true.1 qz4 J.length (List.mem_range.2 (by omega))) i (List.mem_range.2 (by omega))
   rw [lfS,ih (by omega),if_pos (of_decide_eq_true h1)]
   rfl
 exact key _ (Nat.le_refl _)
theorem qxi {W J:List LkI} (hJ:areJ J):alG W J (2 ^ J.length) ≠ [] :=by
 intro h
 have hp :=Nat.two_pow_pos J.length
 have hm:gnS (2 ^ J.length - 1) J.length ∈ alG W J (2 ^ J.length) :=by
  unfold alG
  refine List.mem_map.2 ⟨2 ^ J.length - 1,List.mem_filter.2 ⟨List.mem_range.2 (by omega),decide_eq_true ?_⟩,rfl⟩
  refine .inl (qz3 hJ.1.2)
 rw [h] at hm
 cases hm
theorem qoa:∀ l,wkl (svs l) = svs l
 | [] => rfl
 |x :: r => by
  rw [show svs (x :: r) = sv x :: svs r from rfl,wkl,qoa r]
  cases x with
  |nil => rfl
  |cons y z =>
   rw [show sv (y :: z) = .lst (ivs (y :: z)) (y :: z).length .no from rfl,wk,qhm]
   exact fun h => nomatch h
theorem qzk (l:List (List Int)) (c:Nat):wkl [svC l c,.func (.func 80) [] []] = [.lst (svs l) l.length .no,.func (.func 80) [] []] :=by
 show [AV.lst (wkl (svs l)) l.length .no,_] = _
 rw [qoa]
 rfl
def rfI (W J:List LkI):List Int :=match alG W J (2 ^ J.length) with
 | [] => []
 |x :: r => bsI x r
theorem qgy {W J:List LkI} (hW:areW W) (hJ:areJ J):Pure prog 33 [lkA W,lkA J] (.tup [sv (rfI W J),iv 0]) :=by
 have lW :=qa0 W
 have lJ :=qa0 J
 have hJ6 :=hJ.1.2
 have w2 :=shl7 hJ6
 have hP6:2 ^ J.length ≤ 2 ^ 6 :=Nat.pow_le_pow_right (by decide) hJ6
 have pa :=qip (x :=lkA W) (.inr rfl)
 have pb :=qiq (x :=lkA J) (.inr rfl)
 have ea:(!decide (areW W)) = false :=nt_t (decide_eq_true hW)
 have eb:(!decide (areJ J)) = false :=nt_t (decide_eq_true hJ)
 obtain ⟨w,hw⟩ :=SVv.of (rfI W J)
 have lR:Live noL w :=hw.eq ▸ qrc _
 rw [← hw.eq]
 refine qan hE rfl (by repeat' first|exact trivial|assumption|exact qaf _|exact fun _ h => nomatch h|apply And.intro) (by repeat' first|exact trivial|assumption|exact qaf _|exact fun _ h => nomatch h|apply And.intro) fun S q pc hS hq hC hE => ?_
 conv => whnf
 repeat ((first|refine qap ‹_› ?_|refine qaq ‹_› ?_|refine pkF ‹_› ?_|refine qab ‹_› ?_|refine qak (gff ‹_›) ?_|refine qaj (gff ‹_›) ?_|refine pkT (gff ‹_›) ?_|refine qaa (gff ‹_›) ?_|refine qac hC (pa) ?_|refine qac hC (pb) ?_|refine qad hS (by kernel_rfl) ?_);conv => whnf)
 refine qhq fun K hK => ?_
 refine qfu hE hS (A :=Nat × AV × List AObj) [] (fun x hx => nomatch hx) [0,1,4,5,22,23,24] (fun (s,v,_) => [(6,v),(25,nv s)]) (fun _ => []) (fun a => a.2.2) (fun (s,v,ux) => s ≤ 2 ^ J.length ∧ grG (alG W J s) v ux) (fun (s,_) => 2 ^ J.length - s) (0,.nils,[]) (kle rfl) trivial rfl (by repeat' (first|exact trivial|exact Nat.zero_le _|exact kle rfl|exact bdq|exact mxI rfl|exact mxS rfl|apply And.intro)) zhr ⟨Nat.zero_le _,.inl ⟨rfl,rfl,rfl⟩⟩ ?_
 rintro ⟨s,v,ux⟩ ⟨hs,⟨ha,rfl,rfl⟩ | ⟨ha,rfl,rfl⟩⟩ Q hQ
 ·obtain rfl:Q = 0 :=hQ
  conv => whnf
  by_cases hs2:s < 2 ^ J.length
  ·have c0:decide (Int.ofNat s < IntKind.i64.wrap (1 * 2 ^ min (Int.toNat (J.length:Int)) IntKind.i64.bits)) = true :=decide_eq_true (by rw [w2];exact Int.ofNat_lt.2 hs2)
   have hs6:s < 64 :=by omega
   have hs1:IntKind.i64.wrap (Int.ofNat s + 1) = Int.ofNat (s + 1) :=qa1 (m :=s + 1) (by omega)
   refine qaa (c0) ?_
   conv => whnf
   have lA :=qa4 (alG W J s)
   have hal :=qn5 W J s
   refine qhq fun K hK => ?_
   refine qfu hE hS (A :=Nat × List Int × List LkI × AV × AV × List AObj) [] (fun x hx => nomatch hx) [0,1,4,5,6,7,22,23,24,25,28,29] (fun (i,_,_,v,w,_) => [(8,v),(9,w),(30,nv i)]) (fun _ => []) (fun a => a.2.2.2.2.2) (fun (i,G,X,v,w,ux) => i ≤ J.length ∧ (G = gnS s i ∧ X = lfS J s i) ∧ grR 0 G X v w ux) (fun (i,_) => J.length - i) (0,[],[],.nils,.nils,[]) (kle rfl) trivial rfl (by repeat' (first|exact trivial|exact Nat.zero_le _|exact qc5 _ (by decide)|exact kle rfl|exact bdq|exact mxI rfl|exact mxS rfl|apply And.intro)) zhr ⟨Nat.zero_le _,⟨rfl,rfl⟩,.inl ⟨rfl,rfl,rfl,rfl,rfl⟩⟩ ?_
   rintro ⟨i,G,X,v,w,ux⟩ ⟨hi,⟨hG,hX⟩,⟨hG0,hX0,rfl,rfl,rfl⟩ | ⟨hG0,hX0,rfl,rfl,rfl⟩ | ⟨hG0,hX0,rfl,rfl,rfl⟩ | ⟨hG0,hX0,rfl,rfl,rfl⟩⟩ Q hQ
   ·obtain rfl:Q = 0 :=hQ
    conv => whnf
    have hGl:G.length ≤ i :=hG ▸ qef s i
    have hXl:X.length ≤ i :=hX ▸ qec J s i
    by_cases hi2:i < J.length
    ·refine qaa (qau hi2) ?_
     conv => whnf
     refine qaa (qal hi2) ?_
     conv => whnf
     refine qae (takP (qc8 J hi2)) ?_
     conv => whnf
     have hi6:i < 7 :=by omega
     have hi1:IntKind.i64.wrap (Int.ofNat i + 1) = Int.ofNat (i + 1) :=qa1 (m :=i + 1) (by omega)
     by_cases hp:(s >>> i) % 2 = 1
     ·refine qaa (bt7 hs6 hi6 (decide_eq_true hp)) ?_
      conv => whnf
      have eG:gnS s (i + 1) = G ++ [Int.ofNat i] :=by rw [gnS,if_pos hp,hG]
      have eX:lfS J s (i + 1) = X :=by rw [lfS,if_pos hp,List.append_nil,hX]
      rw [hG0] at eG
      rw [hX0] at eX
      exact ⟨(i + 1,[Int.ofNat i],[],giC ([Int.ofNat i]) 0,.nils,[.chain ([Int.ofNat i]).length 1 3]),[1],⟨hi2,⟨eG.symm,eX.symm⟩,.inr (.inl ⟨by simp,rfl,rfl,rfl,rfl⟩)⟩,by show J.length - (i + 1) < J.length - i;omega,zhr⟩
     ·refine qab (bt7 hs6 hi6 (decide_eq_false hp)) ?_
      conv => whnf
      have eG:gnS s (i + 1) = G :=by rw [gnS,if_neg hp,List.append_nil,hG]
      have eX:lfS J s (i + 1) = X ++ [((gL J i).1,(gL J i).2.1,(gL J i).2.2)] :=by rw [lfS,if_neg hp,hX]
      rw [hX0] at eX
      rw [hG0] at eG
      exact ⟨(i + 1,[],[((gL J i).1,(gL J i).2.1,(gL J i).2.2)],.nils,ljC ([((gL J i).1,(gL J i).2.1,(gL J i).2.2)]) 0,[.chain ([((gL J i).1,(gL J i).2.1,(gL J i).2.2)]).length 3 53]),[1],⟨hi2,⟨eG.symm,eX.symm⟩,.inr (.inr (.inl ⟨rfl,by simp,rfl,rfl,rfl⟩))⟩,by show J.length - (i + 1) < J.length - i;omega,zhr⟩
    ·refine qab (qa6 hi2) ?_
     conv => whnf
     refine hK _ _ ?_
     conv => whnf
     have ei:i = J.length :=by omega
     subst ei
     exfalso
     have :=qif J s J.length
     rw [← hG,← hX,hG0,hX0] at this
     have :=hJ.1.1
     simp only [List.length_nil] at *
     omega
   ·obtain rfl:Q = 1 :=hQ
    conv => whnf
    have hGl:G.length ≤ i :=hG ▸ qef s i
    have hXl:X.length ≤ i :=hX ▸ qec J s i
    by_cases hi2:i < J.length
    ·refine qaa (qau hi2) ?_
     conv => whnf
     refine qaa (qal hi2) ?_
     conv => whnf
     refine qae (takP (qc8 J hi2)) ?_
     conv => whnf
     have hi6:i < 7 :=by omega
     have hi1:IntKind.i64.wrap (Int.ofNat i + 1) = Int.ofNat (i + 1) :=qa1 (m :=i + 1) (by omega)
     by_cases hp:(s >>> i) % 2 = 1
     ·refine qaa (bt7 hs6 hi6 (decide_eq_true hp)) ?_
      conv => whnf
      have eG:gnS s (i + 1) = G ++ [Int.ofNat i] :=by rw [gnS,if_pos hp,hG]
      have eX:lfS J s (i + 1) = X :=by rw [lfS,if_pos hp,List.append_nil,hX]
      refine qaa (decide_eq_true (show ((G).length + (0 + 1)) * 8 ≤ 140737488355328 by omega)) ?_
      conv => whnf
      refine qaa (decide_eq_true (show (G).length + (0 + 1) ≤ 9223372036854775807 by omega)) ?_
      conv => whnf
      refine qaa (qew (G)) ?_
      conv => whnf
      refine qaa (decide_eq_true rfl) ?_
      conv => whnf
      rw [hX0] at eX
      exact ⟨(i + 1,G ++ [Int.ofNat i],[],giC (G ++ [Int.ofNat i]) 0,.nils,[.chain (G ++ [Int.ofNat i]).length 1 3]),[0],⟨hi2,⟨eG.symm,eX.symm⟩,.inr (.inl ⟨by simp,rfl,rfl,rfl,rfl⟩)⟩,by show J.length - (i + 1) < J.length - i;omega,zhr⟩
     ·refine qab (bt7 hs6 hi6 (decide_eq_false hp)) ?_
      conv => whnf
      have eG:gnS s (i + 1) = G :=by rw [gnS,if_neg hp,List.append_nil,hG]
      have eX:lfS J s (i + 1) = X ++ [((gL J i).1,(gL J i).2.1,(gL J i).2.2)] :=by rw [lfS,if_neg hp,hX]
      rw [hX0] at eX
      exact ⟨(i + 1,G,[((gL J i).1,(gL J i).2.1,(gL J i).2.2)],giC G 0,ljC ([((gL J i).1,(gL J i).2.1,(gL J i).2.2)]) 1,[.chain G.length 1 3,.chain ([((gL J i).1,(gL J i).2.1,(gL J i).2.2)]).length 3 53]),[0,2],⟨hi2,⟨eG.symm,eX.symm⟩,.inr (.inr (.inr ⟨hG0,by simp,rfl,rfl,rfl⟩))⟩,by show J.length - (i + 1) < J.length - i;omega,zhr⟩
    ·refine qab (qa6 hi2) ?_
     conv => whnf
     refine hK _ _ ?_
     conv => whnf
     have ei:i = J.length :=by omega
     subst ei
     have hok:okRf W J s :=.inl (by rw [← hX,hX0])
     refine qac hC (qlo) ?_
     conv => whnf
     have hv7:WkV (giC G 0) (sv G) :=by rw [qp2 hG0];exact WkV.own _ _ _
     have hall:alG W J (s + 1) = [G] :=by rw [qc1,if_pos hok,← hG,ha];rfl
     exact ⟨(s + 1,svC [G] 0,[.chain 1 1 24]),[1],⟨hs2,.inr ⟨by rw [hall];simp,by rw [hall],by rw [hall];rfl⟩⟩,by show 2 ^ J.length - (s + 1) < 2 ^ J.length - s;omega,zhr⟩
   ·obtain rfl:Q = 1 :=hQ
    conv => whnf
    have hGl:G.length ≤ i :=hG ▸ qef s i
    have hXl:X.length ≤ i :=hX ▸ qec J s i
    by_cases hi2:i < J.length
    ·refine qaa (qau hi2) ?_
     conv => whnf
     refine qaa (qal hi2) ?_
     conv => whnf
     refine qae (takP (qc8 J hi2)) ?_
     conv => whnf
     have hi6:i < 7 :=by omega
     have hi1:IntKind.i64.wrap (Int.ofNat i + 1) = Int.ofNat (i + 1) :=qa1 (m :=i + 1) (by omega)
     by_cases hp:(s >>> i) % 2 = 1
     ·refine qaa (bt7 hs6 hi6 (decide_eq_true hp)) ?_
      conv => whnf
      have eG:gnS s (i + 1) = G ++ [Int.ofNat i] :=by rw [gnS,if_pos hp,hG]
      have eX:lfS J s (i + 1) = X :=by rw [lfS,if_pos hp,List.append_nil,hX]
      rw [hG0] at eG
      exact ⟨(i + 1,[Int.ofNat i],X,giC ([Int.ofNat i]) 0,ljC X 1,[.chain ([Int.ofNat i]).length 1 3,.chain X.length 3 53]),[2,0],⟨hi2,⟨eG.symm,eX.symm⟩,.inr (.inr (.inr ⟨by simp,hX0,rfl,rfl,rfl⟩))⟩,by show J.length - (i + 1) < J.length - i;omega,zhr⟩
     ·refine qab (bt7 hs6 hi6 (decide_eq_false hp)) ?_
      conv => whnf
      have eG:gnS s (i + 1) = G :=by rw [gnS,if_neg hp,List.append_nil,hG]
      have eX:lfS J s (i + 1) = X ++ [((gL J i).1,(gL J i).2.1,(gL J i).2.2)] :=by rw [lfS,if_neg hp,hX]
      refine qaa (decide_eq_true (show ((X).length + (0 + 1)) * 24 ≤ 140737488355328 by omega)) ?_
      conv => whnf
      refine qaa (decide_eq_true (show (X).length + (0 + 1) ≤ 9223372036854775807 by omega)) ?_
      conv => whnf
      refine qaa (qf4 (X)) ?_
      conv => whnf
      refine qaa (decide_eq_true rfl) ?_
      conv => whnf
      rw [hG0] at eG
      exact ⟨(i + 1,[],X ++ [((gL J i).1,(gL J i).2.1,(gL J i).2.2)],.nils,ljC (X ++ [((gL J i).1,(gL J i).2.1,(gL J i).2.2)]) 0,[.chain (X ++ [((gL J i).1,(gL J i).2.1,(gL J i).2.2)]).length 3 53]),[0],⟨hi2,⟨eG.symm,eX.symm⟩,.inr (.inr (.inl ⟨rfl,by simp,rfl,rfl,rfl⟩))⟩,by show J.length - (i + 1) < J.length - i;omega,zhr⟩
    ·refine qab (qa6 hi2) ?_
     conv => whnf
     refine hK _ _ ?_
     conv => whnf
     have ei:i = J.length :=by omega
     subst ei
     have hXJ:areJ X :=qia hJ hX hX0
     cases hp:plL W X with
     |nil =>
      have hno:¬ okRf W J s :=fun z => z.elim (fun z => hX0 (hX.trans z)) fun z => z (by rw [← hX];exact hp)
      refine qai hC (qco (qgx W X _) (hp ▸ qb8 hW hXJ)) ?_
      conv => whnf
      have hall:alG W J (s + 1) = [] :=by rw [qc1,if_neg hno,List.append_nil,ha]
      exact ⟨(s + 1,.nils,[]),[],⟨hs2,.inl ⟨hall,rfl,rfl⟩⟩,by show 2 ^ J.length - (s + 1) < 2 ^ J.length - s;omega,zhr⟩
     |cons p ps =>
      have hok:okRf W J s :=.inr (by rw [← hX,hp];simp)
      refine qai hC (qco (qgx W X _) (hp ▸ qb8 hW hXJ)) ?_
      conv => whnf
      refine qaa ((decide_eq_true (show (((p :: ps).length:Nat):Int) > 0 by rw [List.length_cons];omega))) ?_
      conv => whnf
      have hv7:WkV .nils (sv G) :=by rw [hG0];exact WkV.refl _
      have hall:alG W J (s + 1) = [G] :=by rw [qc1,if_pos hok,← hG,ha];rfl
      exact ⟨(s + 1,svC [G] 0,[.chain 1 1 24]),[1],⟨hs2,.inr ⟨by rw [hall];simp,by rw [hall],by rw [hall];rfl⟩⟩,by show 2 ^ J.length - (s + 1) < 2 ^ J.length - s;omega,zhr⟩
   ·obtain rfl:Q = 2 :=hQ
    conv => whnf
    have hGl:G.length ≤ i :=hG ▸ qef s i
    have hXl:X.length ≤ i :=hX ▸ qec J s i
    by_cases hi2:i < J.length
    ·refine qaa (qau hi2) ?_
     conv => whnf
     refine qaa (qal hi2) ?_
     conv => whnf
     refine qae (takP (qc8 J hi2)) ?_
     conv => whnf
     have hi6:i < 7 :=by omega
     have hi1:IntKind.i64.wrap (Int.ofNat i + 1) = Int.ofNat (i + 1) :=qa1 (m :=i + 1) (by omega)
     by_cases hp:(s >>> i) % 2 = 1
     ·refine qaa (bt7 hs6 hi6 (decide_eq_true hp)) ?_
      conv => whnf
      have eG:gnS s (i + 1) = G ++ [Int.ofNat i] :=by rw [gnS,if_pos hp,hG]
      have eX:lfS J s (i + 1) = X :=by rw [lfS,if_pos hp,List.append_nil,hX]
      refine qaa (decide_eq_true (show ((G).length + (0 + 1)) * 8 ≤ 140737488355328 by omega)) ?_
      conv => whnf
      refine qaa (decide_eq_true (show (G).length + (0 + 1) ≤ 9223372036854775807 by omega)) ?_
      conv => whnf
      refine qaa (qew (G)) ?_
      conv => whnf
      refine qaa (decide_eq_true rfl) ?_
      conv => whnf
      exact ⟨(i + 1,G ++ [Int.ofNat i],X,giC (G ++ [Int.ofNat i]) 0,ljC X 1,[.chain (G ++ [Int.ofNat i]).length 1 3,.chain X.length 3 53]),[0,1],⟨hi2,⟨eG.symm,eX.symm⟩,.inr (.inr (.inr ⟨by simp,hX0,rfl,rfl,rfl⟩))⟩,by show J.length - (i + 1) < J.length - i;omega,zhr⟩
     ·refine qab (bt7 hs6 hi6 (decide_eq_false hp)) ?_
      conv => whnf
      have eG:gnS s (i + 1) = G :=by rw [gnS,if_neg hp,List.append_nil,hG]
      have eX:lfS J s (i + 1) = X ++ [((gL J i).1,(gL J i).2.1,(gL J i).2.2)] :=by rw [lfS,if_neg hp,hX]
      refine qaa (decide_eq_true (show ((X).length + (0 + 1)) * 24 ≤ 140737488355328 by omega)) ?_
      conv => whnf
      refine qaa (decide_eq_true (show (X).length + (0 + 1) ≤ 9223372036854775807 by omega)) ?_
      conv => whnf
      refine qaa (qf4 (X)) ?_
      conv => whnf
      refine qaa (decide_eq_true rfl) ?_
      conv => whnf
      exact ⟨(i + 1,G,X ++ [((gL J i).1,(gL J i).2.1,(gL J i).2.2)],giC G 0,ljC (X ++ [((gL J i).1,(gL J i).2.1,(gL J i).2.2)]) 1,[.chain G.length 1 3,.chain (X ++ [((gL J i).1,(gL J i).2.1,(gL J i).2.2)]).length 3 53]),[0,1],⟨hi2,⟨eG.symm,eX.symm⟩,.inr (.inr (.inr ⟨hG0,by simp,rfl,rfl,rfl⟩))⟩,by show J.length - (i + 1) < J.length - i;omega,zhr⟩
    ·refine qab (qa6 hi2) ?_
     conv => whnf
     refine hK _ _ ?_
     conv => whnf
     have ei:i = J.length :=by omega
     subst ei
     have hXJ:areJ X :=qia hJ hX hX0
     cases hp:plL W X with
     |nil =>
      have hno:¬ okRf W J s :=fun z => z.elim (fun z => hX0 (hX.trans z)) fun z => z (by rw [← hX];exact hp)
      refine qai hC (qco (qgx W X _) (hp ▸ qb8 hW hXJ)) ?_
      conv => whnf
      have hall:alG W J (s + 1) = [] :=by rw [qc1,if_neg hno,List.append_nil,ha]
      exact ⟨(s + 1,.nils,[]),[],⟨hs2,.inl ⟨hall,rfl,rfl⟩⟩,by show 2 ^ J.length - (s + 1) < 2 ^ J.length - s;omega,zhr⟩
     |cons p ps =>
      have hok:okRf W J s :=.inr (by rw [← hX,hp];simp)
      refine qai hC (qco (qgx W X _) (hp ▸ qb8 hW hXJ)) ?_
      conv => whnf
      refine qaa ((decide_eq_true (show (((p :: ps).length:Nat):Int) > 0 by rw [List.length_cons];omega))) ?_
      conv => whnf
      have hv7:WkV (giC G 0) (sv G) :=by rw [qp2 hG0];exact WkV.own _ _ _
      have hall:alG W J (s + 1) = [G] :=by rw [qc1,if_pos hok,← hG,ha];rfl
      exact ⟨(s + 1,svC [G] 0,[.chain 1 1 24]),[2],⟨hs2,.inr ⟨by rw [hall];simp,by rw [hall],by rw [hall];rfl⟩⟩,by show 2 ^ J.length - (s + 1) < 2 ^ J.length - s;omega,zhr⟩
  ·have c0:decide (Int.ofNat s < IntKind.i64.wrap (1 * 2 ^ min (Int.toNat (J.length:Int)) IntKind.i64.bits)) = false :=decide_eq_false (by rw [w2];exact fun z => hs2 (Int.ofNat_lt.1 z))
   refine qab (c0) ?_
   conv => whnf
   refine hK _ _ ?_
   conv => whnf
   have es:s = 2 ^ J.length :=by omega
   exfalso
   exact qxi hJ (es ▸ ha)
 ·obtain rfl:Q = 1 :=hQ
  conv => whnf
  by_cases hs2:s < 2 ^ J.length
  ·have c0:decide (Int.ofNat s < IntKind.i64.wrap (1 * 2 ^ min (Int.toNat (J.length:Int)) IntKind.i64.bits)) = true :=decide_eq_true (by rw [w2];exact Int.ofNat_lt.2 hs2)
   have hs6:s < 64 :=by omega
   have hs1:IntKind.i64.wrap (Int.ofNat s + 1) = Int.ofNat (s + 1) :=qa1 (m :=s + 1) (by omega)
   refine qaa (c0) ?_
   conv => whnf
   have lA :=qa4 (alG W J s)
   have hal :=qn5 W J s
   refine qhq fun K hK => ?_
   refine qfu hE hS (A :=Nat × List Int × List LkI × AV × AV × List AObj) [] (fun x hx => nomatch hx) [0,1,4,5,6,7,22,23,24,25,28,29] (fun (i,_,_,v,w,_) => [(8,v),(9,w),(30,nv i)]) (fun _ => []) (fun a => a.2.2.2.2.2) (fun (i,G,X,v,w,ux) => i ≤ J.length ∧ (G = gnS s i ∧ X = lfS J s i) ∧ grR 1 G X v w ux) (fun (i,_) => J.length - i) (0,[],[],.nils,.nils,[]) (kle rfl) trivial rfl (by repeat' (first|exact trivial|exact Nat.zero_le _|exact qc5 _ (by decide)|exact kle rfl|exact bdq|exact mxI rfl|exact mxS rfl|apply And.intro)) zhr ⟨Nat.zero_le _,⟨rfl,rfl⟩,.inl ⟨rfl,rfl,rfl,rfl,rfl⟩⟩ ?_
   rintro ⟨i,G,X,v,w,ux⟩ ⟨hi,⟨hG,hX⟩,⟨hG0,hX0,rfl,rfl,rfl⟩ | ⟨hG0,hX0,rfl,rfl,rfl⟩ | ⟨hG0,hX0,rfl,rfl,rfl⟩ | ⟨hG0,hX0,rfl,rfl,rfl⟩⟩ Q hQ
   ·obtain rfl:Q = 1 :=hQ
    conv => whnf
    have hGl:G.length ≤ i :=hG ▸ qef s i
    have hXl:X.length ≤ i :=hX ▸ qec J s i
    by_cases hi2:i < J.length
    ·refine qaa (qau hi2) ?_
     conv => whnf
     refine qaa (qal hi2) ?_
     conv => whnf
     refine qae (takP (qc8 J hi2)) ?_
     conv => whnf
     have hi6:i < 7 :=by omega
     have hi1:IntKind.i64.wrap (Int.ofNat i + 1) = Int.ofNat (i + 1) :=qa1 (m :=i + 1) (by omega)
     by_cases hp:(s >>> i) % 2 = 1
     ·refine qaa (bt7 hs6 hi6 (decide_eq_true hp)) ?_
      conv => whnf
      have eG:gnS s (i + 1) = G ++ [Int.ofNat i] :=by rw [gnS,if_pos hp,hG]
      have eX:lfS J s (i + 1) = X :=by rw [lfS,if_pos hp,List.append_nil,hX]
      rw [hG0] at eG
      rw [hX0] at eX
      exact ⟨(i + 1,[Int.ofNat i],[],giC ([Int.ofNat i]) 1,.nils,[.chain ([Int.ofNat i]).length 1 3]),[2],⟨hi2,⟨eG.symm,eX.symm⟩,.inr (.inl ⟨by simp,rfl,rfl,rfl,rfl⟩)⟩,by show J.length - (i + 1) < J.length - i;omega,zhr⟩
     ·refine qab (bt7 hs6 hi6 (decide_eq_false hp)) ?_
      conv => whnf
      have eG:gnS s (i + 1) = G :=by rw [gnS,if_neg hp,List.append_nil,hG]
      have eX:lfS J s (i + 1) = X ++ [((gL J i).1,(gL J i).2.1,(gL J i).2.2)] :=by rw [lfS,if_neg hp,hX]
      rw [hX0] at eX
      rw [hG0] at eG
      exact ⟨(i + 1,[],[((gL J i).1,(gL J i).2.1,(gL J i).2.2)],.nils,ljC ([((gL J i).1,(gL J i).2.1,(gL J i).2.2)]) 1,[.chain ([((gL J i).1,(gL J i).2.1,(gL J i).2.2)]).length 3 53]),[2],⟨hi2,⟨eG.symm,eX.symm⟩,.inr (.inr (.inl ⟨rfl,by simp,rfl,rfl,rfl⟩))⟩,by show J.length - (i + 1) < J.length - i;omega,zhr⟩
    ·refine qab (qa6 hi2) ?_
     conv => whnf
     refine hK _ _ ?_
     conv => whnf
     have ei:i = J.length :=by omega
     subst ei
     exfalso
     have :=qif J s J.length
     rw [← hG,← hX,hG0,hX0] at this
     have :=hJ.1.1
     simp only [List.length_nil] at *
     omega
   ·obtain rfl:Q = 2 :=hQ
    conv => whnf
    have hGl:G.length ≤ i :=hG ▸ qef s i
    have hXl:X.length ≤ i :=hX ▸ qec J s i
    by_cases hi2:i < J.length
    ·refine qaa (qau hi2) ?_
     conv => whnf
     refine qaa (qal hi2) ?_
     conv => whnf
     refine qae (takP (qc8 J hi2)) ?_
     conv => whnf
     have hi6:i < 7 :=by omega
     have hi1:IntKind.i64.wrap (Int.ofNat i + 1) = Int.ofNat (i + 1) :=qa1 (m :=i + 1) (by omega)
     by_cases hp:(s >>> i) % 2 = 1
     ·refine qaa (bt7 hs6 hi6 (decide_eq_true hp)) ?_
      conv => whnf
      have eG:gnS s (i + 1) = G ++ [Int.ofNat i] :=by rw [gnS,if_pos hp,hG]
      have eX:lfS J s (i + 1) = X :=by rw [lfS,if_pos hp,List.append_nil,hX]
      refine qaa (decide_eq_true (show ((G).length + (0 + 1)) * 8 ≤ 140737488355328 by omega)) ?_
      conv => whnf
      refine qaa (decide_eq_true (show (G).length + (0 + 1) ≤ 9223372036854775807 by omega)) ?_
      conv => whnf
      refine qaa (qew (G)) ?_
      conv => whnf
      refine qaa (decide_eq_true rfl) ?_
      conv => whnf
      rw [hX0] at eX
      exact ⟨(i + 1,G ++ [Int.ofNat i],[],giC (G ++ [Int.ofNat i]) 1,.nils,[.chain (G ++ [Int.ofNat i]).length 1 3]),[1],⟨hi2,⟨eG.symm,eX.symm⟩,.inr (.inl ⟨by simp,rfl,rfl,rfl,rfl⟩)⟩,by show J.length - (i + 1) < J.length - i;omega,zhr⟩
     ·refine qab (bt7 hs6 hi6 (decide_eq_false hp)) ?_
      conv => whnf
      have eG:gnS s (i + 1) = G :=by rw [gnS,if_neg hp,List.append_nil,hG]
      have eX:lfS J s (i + 1) = X ++ [((gL J i).1,(gL J i).2.1,(gL J i).2.2)] :=by rw [lfS,if_neg hp,hX]
      rw [hX0] at eX
      exact ⟨(i + 1,G,[((gL J i).1,(gL J i).2.1,(gL J i).2.2)],giC G 1,ljC ([((gL J i).1,(gL J i).2.1,(gL J i).2.2)]) 2,[.chain G.length 1 3,.chain ([((gL J i).1,(gL J i).2.1,(gL J i).2.2)]).length 3 53]),[1,3],⟨hi2,⟨eG.symm,eX.symm⟩,.inr (.inr (.inr ⟨hG0,by simp,rfl,rfl,rfl⟩))⟩,by show J.length - (i + 1) < J.length - i;omega,zhr⟩
    ·refine qab (qa6 hi2) ?_
     conv => whnf
     refine hK _ _ ?_
     conv => whnf
     have ei:i = J.length :=by omega
     subst ei
     have hok:okRf W J s :=.inl (by rw [← hX,hX0])
     refine qac hC (qlo) ?_
     conv => whnf
     have hv7:WkV (giC G 1) (sv G) :=by rw [qp2 hG0];exact WkV.own _ _ _
     have hall:alG W J (s + 1) = alG W J s ++ [G] :=by rw [qc1,if_pos hok,← hG]
     refine qaa (decide_eq_true (show ((alG W J s).length + (0 + 1)) * 24 ≤ 140737488355328 by omega)) ?_
     conv => whnf
     refine qaa (decide_eq_true (show (alG W J s).length + (0 + 1) ≤ 9223372036854775807 by omega)) ?_
     conv => whnf
     refine qaa (qcq (alG W J s)) ?_
     conv => whnf
     refine qaa (decide_eq_true rfl) ?_
     conv => whnf
     exact ⟨(s + 1,svC (alG W J s ++ [G]) 0,[.chain (alG W J s ++ [G]).length 1 24]),[0],⟨hs2,.inr ⟨by rw [hall];simp,by rw [hall],by rw [hall]⟩⟩,by show 2 ^ J.length - (s + 1) < 2 ^ J.length - s;omega,zhr⟩
   ·obtain rfl:Q = 2 :=hQ
    conv => whnf
    have hGl:G.length ≤ i :=hG ▸ qef s i
    have hXl:X.length ≤ i :=hX ▸ qec J s i
    by_cases hi2:i < J.length
    ·refine qaa (qau hi2) ?_
     conv => whnf
     refine qaa (qal hi2) ?_
     conv => whnf
     refine qae (takP (qc8 J hi2)) ?_
     conv => whnf
     have hi6:i < 7 :=by omega
     have hi1:IntKind.i64.wrap (Int.ofNat i + 1) = Int.ofNat (i + 1) :=qa1 (m :=i + 1) (by omega)
     by_cases hp:(s >>> i) % 2 = 1
     ·refine qaa (bt7 hs6 hi6 (decide_eq_true hp)) ?_
      conv => whnf
      have eG:gnS s (i + 1) = G ++ [Int.ofNat i] :=by rw [gnS,if_pos hp,hG]
      have eX:lfS J s (i + 1) = X :=by rw [lfS,if_pos hp,List.append_nil,hX]
      rw [hG0] at eG
      exact ⟨(i + 1,[Int.ofNat i],X,giC ([Int.ofNat i]) 1,ljC X 2,[.chain ([Int.ofNat i]).length 1 3,.chain X.length 3 53]),[3,1],⟨hi2,⟨eG.symm,eX.symm⟩,.inr (.inr (.inr ⟨by simp,hX0,rfl,rfl,rfl⟩))⟩,by show J.length - (i + 1) < J.length - i;omega,zhr⟩
     ·refine qab (bt7 hs6 hi6 (decide_eq_false hp)) ?_
      conv => whnf
      have eG:gnS s (i + 1) = G :=by rw [gnS,if_neg hp,List.append_nil,hG]
      have eX:lfS J s (i + 1) = X ++ [((gL J i).1,(gL J i).2.1,(gL J i).2.2)] :=by rw [lfS,if_neg hp,hX]
      refine qaa (decide_eq_true (show ((X).length + (0 + 1)) * 24 ≤ 140737488355328 by omega)) ?_
      conv => whnf
      refine qaa (decide_eq_true (show (X).length + (0 + 1) ≤ 9223372036854775807 by omega)) ?_
      conv => whnf
      refine qaa (qf4 (X)) ?_
      conv => whnf
      refine qaa (decide_eq_true rfl) ?_
      conv => whnf
      rw [hG0] at eG
      exact ⟨(i + 1,[],X ++ [((gL J i).1,(gL J i).2.1,(gL J i).2.2)],.nils,ljC (X ++ [((gL J i).1,(gL J i).2.1,(gL J i).2.2)]) 1,[.chain (X ++ [((gL J i).1,(gL J i).2.1,(gL J i).2.2)]).length 3 53]),[1],⟨hi2,⟨eG.symm,eX.symm⟩,.inr (.inr (.inl ⟨rfl,by simp,rfl,rfl,rfl⟩))⟩,by show J.length - (i + 1) < J.length - i;omega,zhr⟩
    ·refine qab (qa6 hi2) ?_
     conv => whnf
     refine hK _ _ ?_
     conv => whnf
     have ei:i = J.length :=by omega
     subst ei
     have hXJ:areJ X :=qia hJ hX hX0
     cases hp:plL W X with
     |nil =>
      have hno:¬ okRf W J s :=fun z => z.elim (fun z => hX0 (hX.trans z)) fun z => z (by rw [← hX];exact hp)
      refine qai hC (qco (qgx W X _) (hp ▸ qb8 hW hXJ)) ?_
      conv => whnf
      have hall:alG W J (s + 1) = alG W J s :=by rw [qc1,if_neg hno,List.append_nil]
      exact ⟨(s + 1,svC (alG W J s) 0,[.chain (alG W J s).length 1 24]),[0],⟨hs2,.inr ⟨by rw [hall];exact ha,by rw [hall],by rw [hall]⟩⟩,by show 2 ^ J.length - (s + 1) < 2 ^ J.length - s;omega,zhr⟩
     |cons p ps =>
      have hok:okRf W J s :=.inr (by rw [← hX,hp];simp)
      refine qai hC (qco (qgx W X _) (hp ▸ qb8 hW hXJ)) ?_
      conv => whnf
      refine qaa ((decide_eq_true (show (((p :: ps).length:Nat):Int) > 0 by rw [List.length_cons];omega))) ?_
      conv => whnf
      have hv7:WkV .nils (sv G) :=by rw [hG0];exact WkV.refl _
      have hall:alG W J (s + 1) = alG W J s ++ [G] :=by rw [qc1,if_pos hok,← hG]
      refine qaa (decide_eq_true (show ((alG W J s).length + (0 + 1)) * 24 ≤ 140737488355328 by omega)) ?_
      conv => whnf
      refine qaa (decide_eq_true (show (alG W J s).length + (0 + 1) ≤ 9223372036854775807 by omega)) ?_
      conv => whnf
      refine qaa (qcq (alG W J s)) ?_
      conv => whnf
      refine qaa (decide_eq_true rfl) ?_
      conv => whnf
      exact ⟨(s + 1,svC (alG W J s ++ [G]) 0,[.chain (alG W J s ++ [G]).length 1 24]),[0],⟨hs2,.inr ⟨by rw [hall];simp,by rw [hall],by rw [hall]⟩⟩,by show 2 ^ J.length - (s + 1) < 2 ^ J.length - s;omega,zhr⟩
   ·obtain rfl:Q = 3 :=hQ
    conv => whnf
    have hGl:G.length ≤ i :=hG ▸ qef s i
    have hXl:X.length ≤ i :=hX ▸ qec J s i
    by_cases hi2:i < J.length
    ·refine qaa (qau hi2) ?_
     conv => whnf
     refine qaa (qal hi2) ?_
     conv => whnf
     refine qae (takP (qc8 J hi2)) ?_
     conv => whnf
     have hi6:i < 7 :=by omega
     have hi1:IntKind.i64.wrap (Int.ofNat i + 1) = Int.ofNat (i + 1) :=qa1 (m :=i + 1) (by omega)
     by_cases hp:(s >>> i) % 2 = 1
     ·refine qaa (bt7 hs6 hi6 (decide_eq_true hp)) ?_
      conv => whnf
      have eG:gnS s (i + 1) = G ++ [Int.ofNat i] :=by rw [gnS,if_pos hp,hG]
      have eX:lfS J s (i + 1) = X :=by rw [lfS,if_pos hp,List.append_nil,hX]
      refine qaa (decide_eq_true (show ((G).length + (0 + 1)) * 8 ≤ 140737488355328 by omega)) ?_
      conv => whnf
      refine qaa (decide_eq_true (show (G).length + (0 + 1) ≤ 9223372036854775807 by omega)) ?_
      conv => whnf
      refine qaa (qew (G)) ?_
      conv => whnf
      refine qaa (decide_eq_true rfl) ?_
      conv => whnf
      exact ⟨(i + 1,G ++ [Int.ofNat i],X,giC (G ++ [Int.ofNat i]) 1,ljC X 2,[.chain (G ++ [Int.ofNat i]).length 1 3,.chain X.length 3 53]),[1,2],⟨hi2,⟨eG.symm,eX.symm⟩,.inr (.inr (.inr ⟨by simp,hX0,rfl,rfl,rfl⟩))⟩,by show J.length - (i + 1) < J.length - i;omega,zhr⟩
     ·refine qab (bt7 hs6 hi6 (decide_eq_false hp)) ?_
      conv => whnf
      have eG:gnS s (i + 1) = G :=by rw [gnS,if_neg hp,List.append_nil,hG]
      have eX:lfS J s (i + 1) = X ++ [((gL J i).1,(gL J i).2.1,(gL J i).2.2)] :=by rw [lfS,if_neg hp,hX]
      refine qaa (decide_eq_true (show ((X).length + (0 + 1)) * 24 ≤ 140737488355328 by omega)) ?_
      conv => whnf
      refine qaa (decide_eq_true (show (X).length + (0 + 1) ≤ 9223372036854775807 by omega)) ?_
      conv => whnf
      refine qaa (qf4 (X)) ?_
      conv => whnf
      refine qaa (decide_eq_true rfl) ?_
      conv => whnf
      exact ⟨(i + 1,G,X ++ [((gL J i).1,(gL J i).2.1,(gL J i).2.2)],giC G 1,ljC (X ++ [((gL J i).1,(gL J i).2.1,(gL J i).2.2)]) 2,[.chain G.length 1 3,.chain (X ++ [((gL J i).1,(gL J i).2.1,(gL J i).2.2)]).length 3 53]),[1,2],⟨hi2,⟨eG.symm,eX.symm⟩,.inr (.inr (.inr ⟨hG0,by simp,rfl,rfl,rfl⟩))⟩,by show J.length - (i + 1) < J.length - i;omega,zhr⟩
    ·refine qab (qa6 hi2) ?_
     conv => whnf
     refine hK _ _ ?_
     conv => whnf
     have ei:i = J.length :=by omega
     subst ei
     have hXJ:areJ X :=qia hJ hX hX0
     cases hp:plL W X with
     |nil =>
      have hno:¬ okRf W J s :=fun z => z.elim (fun z => hX0 (hX.trans z)) fun z => z (by rw [← hX];exact hp)
      refine qai hC (qco (qgx W X _) (hp ▸ qb8 hW hXJ)) ?_
      conv => whnf
      have hall:alG W J (s + 1) = alG W J s :=by rw [qc1,if_neg hno,List.append_nil]
      exact ⟨(s + 1,svC (alG W J s) 0,[.chain (alG W J s).length 1 24]),[0],⟨hs2,.inr ⟨by rw [hall];exact ha,by rw [hall],by rw [hall]⟩⟩,by show 2 ^ J.length - (s + 1) < 2 ^ J.length - s;omega,zhr⟩
     |cons p ps =>
      have hok:okRf W J s :=.inr (by rw [← hX,hp];simp)
      refine qai hC (qco (qgx W X _) (hp ▸ qb8 hW hXJ)) ?_
      conv => whnf
      refine qaa ((decide_eq_true (show (((p :: ps).length:Nat):Int) > 0 by rw [List.length_cons];omega))) ?_
      conv => whnf
      have hv7:WkV (giC G 1) (sv G) :=by rw [qp2 hG0];exact WkV.own _ _ _
      have hall:alG W J (s + 1) = alG W J s ++ [G] :=by rw [qc1,if_pos hok,← hG]
      refine qaa (decide_eq_true (show ((alG W J s).length + (0 + 1)) * 24 ≤ 140737488355328 by omega)) ?_
      conv => whnf
      refine qaa (decide_eq_true (show (alG W J s).length + (0 + 1) ≤ 9223372036854775807 by omega)) ?_
      conv => whnf
      refine qaa (qcq (alG W J s)) ?_
      conv => whnf
      refine qaa (decide_eq_true rfl) ?_
      conv => whnf
      exact ⟨(s + 1,svC (alG W J s ++ [G]) 0,[.chain (alG W J s ++ [G]).length 1 24]),[0],⟨hs2,.inr ⟨by rw [hall];simp,by rw [hall],by rw [hall]⟩⟩,by show 2 ^ J.length - (s + 1) < 2 ^ J.length - s;omega,zhr⟩
  ·have c0:decide (Int.ofNat s < IntKind.i64.wrap (1 * 2 ^ min (Int.toNat (J.length:Int)) IntKind.i64.bits)) = false :=decide_eq_false (by rw [w2];exact fun z => hs2 (Int.ofNat_lt.1 z))
   refine qab (c0) ?_
   conv => whnf
   refine hK _ _ ?_
   conv => whnf
   have es:s = 2 ^ J.length :=by omega
   subst es
   have hal :=qn5 W J (2 ^ J.length)
   obtain ⟨x,r,hx⟩ : ∃ x r,alG W J (2 ^ J.length) = x :: r :=by
    cases h:alG W J (2 ^ J.length) with
    |nil => exact absurd h ha
    |cons x r => exact ⟨x,r,rfl⟩
   have er:rfI W J = bsI x r :=by unfold rfI;rw [hx]
   have hy:∀ y,y ∈ x :: r → y.length ≤ 1000 :=fun y hy => by
    rw [← hx] at hy
    obtain ⟨t,_,h2⟩ :=List.mem_map.1 hy
    have :=qef t J.length
    rw [← h2]
    omega
   rw [hx] at hal ⊢
   have hrl:r.length ≤ 1073741824 :=by rw [List.length_cons] at hal;omega
   have pB :=qqx hrl hy
   rw [← er,← hw.eq] at pB
   rcases hw with ⟨rfl,_⟩ | ⟨rfl,_⟩
   all_goals
    refine qai hC (qco (qzk (x :: r) _) pB) ?_
    conv => whnf
    exact ⟨_,rfl,Wk.refl _⟩
def bsP:Pln → List Pln → Pln
 |o,[] => o
 |o,y :: r => if y.2 < o.2 then bsP y r else bsP o r
abbrev gP (L:List Pln) (i:Nat):Pln :=L.getD i ([],0)
theorem qra:∀ (L:List Pln) {i:Nat},i < L.length → qb2 2 (qck (i * 2) (plE L)) = some [nl (gP L i).1,iv (gP L i).2]
 | [],_,h => absurd h (Nat.not_lt_zero _)
 |x :: r,0,_ => rfl
 |x :: r,i + 1,h => by
  have :=qra r (i :=i) (Nat.lt_of_succ_lt_succ h)
  rw [show (i + 1) * 2 = i * 2 + 1 + 1 by omega]
  exact this
theorem qzb (L:List Pln) {i:Nat} (h:i < L.length):L.drop i = gP L i :: L.drop (i + 1) :=by
 rw [List.drop_eq_getElem_cons h]
 simp [h]
theorem qt4:Pure prog 74 [.nils,.func (.func 76) [] []] (.tup [.agg [.nils,iv 0],.bool false]) :=by
 refine qan hE rfl (by repeat' first|exact trivial|assumption|exact qaf _|exact fun _ h => nomatch h|apply And.intro) (by repeat' first|exact trivial|assumption|exact qaf _|exact fun _ h => nomatch h|apply And.intro) fun S q pc hS hq hC hE => ?_
 conv => whnf
 refine qah hE hS ?_
 conv => whnf
 exact ⟨_,rfl,Wk.refl _⟩
theorem qqw {x:Pln} {r:List Pln} (hl:r.length ≤ 1000):Pure prog 74 [.lst (plE (x :: r)) (x :: r).length .no,.func (.func 76) [] []] (.tup [.agg [nl (bsP x r).1,iv (bsP x r).2],.bool true]) :=by
 have lv :=qeq (x :: r)
 have lb :=qat (bsP x r).1
 obtain ⟨L,hle⟩ : ∃ L,L = x :: r :=⟨_,rfl⟩
 rw [← hle] at lv ⊢
 have hll:1 ≤ L.length ∧ L.length ≤ 1001 :=by rw [hle,List.length_cons];omega
 refine qan hE rfl (by repeat' first|exact trivial|assumption|exact qaf _|exact fun _ h => nomatch h|apply And.intro) (by repeat' first|exact trivial|assumption|exact qaf _|exact fun _ h => nomatch h|apply And.intro) fun S q pc hS hq hC hE => ?_
 conv => whnf
 refine qaw hE hS (A :=Nat × AV × Int) [0,1,4,5,6,9,10] (fun (i,_,_) => [(11,nv i)]) (fun (_,v,w) => [(1,.cells (.node v (.node (iv w) .nil .nil) .nil) 2 126)]) (fun _ => []) (fun (i,v,w) => i ≤ L.length ∧ (i = 0 ∧ v = .nils ∧ w = 0 ∨ 1 ≤ i ∧ ∃ o:Pln,v = nl o.1 ∧ w = o.2 ∧ bsP o (L.drop i) = bsP x r)) (fun (i,_,_) => L.length - i) (0,.nils,0) (Nat.zero_le _) rfl (zhg 2) ⟨Nat.zero_le _,.inl ⟨rfl,rfl,rfl⟩⟩ ?_
 rintro ⟨i,v,w⟩ ⟨hi,hv⟩ N hN
 obtain rfl:N = 2 :=hN
 have hi:i ≤ L.length :=hi
 have hi1:i < L.length → IntKind.i64.wrap (Int.ofNat i + 1) = Int.ofNat (i + 1) :=fun h => qa1 (m :=i + 1) (by omega)
 have hg0:gP L 0 = x :=by rw [hle];rfl
 have hd0:L.drop 1 = r :=by rw [hle];rfl
 rcases hv with ⟨rfl,rfl,rfl⟩ | ⟨h1,o,rfl,rfl,hb⟩
 ·have h0:0 < L.length :=by omega
  have tk :=qra L h0
  rw [hg0] at tk
  conv => whnf
  try have z229:=qau h0
  try have z230:=qal h0
  repeat ((first|refine qae (takP tk) ?_|refine qak ‹_› ?_|refine qaj ‹_› ?_|refine pkT ‹_› ?_|refine qaa ‹_› ?_|refine qap ‹_› ?_|refine qaq ‹_› ?_|refine pkF ‹_› ?_|refine qab ‹_› ?_|refine qad hS (by kernel_rfl) ?_);conv => whnf)
  exact ⟨(1,_,_),⟨hll.1,.inr ⟨Nat.le_refl _,x,rfl,rfl,by rw [hd0]⟩⟩,Nat.sub_lt_sub_left h0 Nat.one_pos,Nat.le_refl _,(zhg 2)⟩
 ·have lo :=qat o.1
  conv => whnf
  by_cases hi2:i < L.length
  ·have tk :=qra L hi2
   have c0:(Int.ofNat i == 0) = false :=beq_eq_false_iff_ne.2 fun z => by have:(i:Int) = 0 :=z;omega
   have lg :=qat (gP L i).1
   have pE :=qqe (nl (gP L i).1) (nl o.1) (nl_no _) (nl_no _) (gP L i).2 o.2 (.inr ⟨_,rfl⟩) (.inr ⟨_,rfl⟩)
   rw [qzb L hi2,bsP] at hb
   by_cases he:(gP L i).2 < o.2
   ·rw [decide_eq_true he] at pE
    rw [if_pos he] at hb
    try have z231:=qau hi2
    try have z232:=qal hi2
    repeat ((first|refine qae (takP tk) ?_|refine qak ‹_› ?_|refine qaj ‹_› ?_|refine pkT ‹_› ?_|refine qaa ‹_› ?_|refine qap ‹_› ?_|refine qaq ‹_› ?_|refine pkF ‹_› ?_|refine qab ‹_› ?_|refine qak (gff ‹_›) ?_|refine qaj (gff ‹_›) ?_|refine pkT (gff ‹_›) ?_|refine qaa (gff ‹_›) ?_|refine qac hC (pE) ?_|refine qad hS (by kernel_rfl) ?_);conv => whnf)
    exact ⟨(i + 1,_,_),⟨hi2,.inr ⟨by omega,_,rfl,rfl,hb⟩⟩,by show L.length - (i + 1) < L.length - i;omega,Nat.le_refl _,(zhg 2)⟩
   ·rw [decide_eq_false he] at pE
    rw [if_neg he] at hb
    try have z233:=qau hi2
    try have z234:=qal hi2
    repeat ((first|refine qae (takP tk) ?_|refine qak ‹_› ?_|refine qaj ‹_› ?_|refine pkT ‹_› ?_|refine qaa ‹_› ?_|refine qap ‹_› ?_|refine qaq ‹_› ?_|refine pkF ‹_› ?_|refine qab ‹_› ?_|refine qak (gff ‹_›) ?_|refine qaj (gff ‹_›) ?_|refine pkT (gff ‹_›) ?_|refine qaa (gff ‹_›) ?_|refine qac hC (pE) ?_|refine qad hS (by kernel_rfl) ?_);conv => whnf)
    exact ⟨(i + 1,_,_),⟨hi2,.inr ⟨by omega,o,rfl,rfl,hb⟩⟩,by show L.length - (i + 1) < L.length - i;omega,Nat.le_refl _,(zhg 2)⟩
  ·refine qab (qa6 hi2) ?_
   conv => whnf
   refine .inl ?_
   conv => whnf
   rw [List.drop_eq_nil_of_le (by omega),bsP] at hb
   subst hb
   rw [decide_eq_true (show (L.length:Int) > 0 by omega)]
   exact ⟨_,rfl,Wk.refl _⟩
def qe2 (W J:List LkI):Option Pln :=match plL W J with
 | [] => none
 |x :: r => some (bsP x r)
theorem qx4 {W J:List LkI} (hW:areW W) (hJ:areJ J):(plL W J).length ≤ 729 :=by
 have h1 :=qhd (J :=J) hW.1.2 J.length []
 have h2:3 ^ J.length ≤ 3 ^ 6 :=Nat.pow_le_pow_right (by decide) hJ.1.2
 unfold plL
 omega
theorem qp8 {W J:List LkI} (hW:areW W) (hJ:areJ J):Pure prog 25 [lkA W,lkA J] (match qe2 W J with | none => .tup [.nils,iv 0,iv 5] | some p => .tup [nl p.1,iv p.2,iv 0]) :=by
 have lW :=qa0 W
 have lJ :=qa0 J
 have ea:(!decide (areW W)) = false :=nt_t (decide_eq_true hW)
 have eb:(!decide (areJ J)) = false :=nt_t (decide_eq_true hJ)
 have pa :=qip (.inr rfl:LL (lkA W) W)
 have pb :=qiq (.inr rfl:LL (lkA J) J)
 have pP :=qb8 hW hJ
 have hlen :=qx4 hW hJ
 unfold qe2
 obtain ⟨L,hL⟩ : ∃ L,L = plL W J :=⟨_,rfl⟩
 rw [← hL] at pP hlen ⊢
 cases L with
 |nil =>
  have pP:Pure prog 75 [lkA W,lkA J] .nils :=pP
  refine qan hE rfl (by repeat' first|exact trivial|assumption|exact qaf _|exact fun _ h => nomatch h|apply And.intro) (by repeat' first|exact trivial|assumption|exact qaf _|exact fun _ h => nomatch h|apply And.intro) fun S q pc hS hq hC hE => ?_
  conv => whnf
  repeat ((first|refine qap ‹_› ?_|refine qaq ‹_› ?_|refine pkF ‹_› ?_|refine qab ‹_› ?_|refine qak (gff ‹_›) ?_|refine qaj (gff ‹_›) ?_|refine pkT (gff ‹_›) ?_|refine qaa (gff ‹_›) ?_|refine qac hC (pa) ?_|refine qac hC (pb) ?_|refine qac hC (pP) ?_|refine qac hC (qt4) ?_|refine qad hS (by kernel_rfl) ?_);conv => whnf)
  exact ⟨_,rfl,Wk.refl _⟩
 |cons x r =>
  have pP:Pure prog 75 [lkA W,lkA J] (.lst (plE (x :: r)) (x :: r).length .no) :=pP
  have pB :=qqw (x :=x) (r :=r) (by rw [List.length_cons] at hlen;omega)
  have lb :=qat (bsP x r).1
  show Pure prog _ _ (.tup [nl (bsP x r).1,iv (bsP x r).2,iv 0])
  refine qan hE rfl (by repeat' first|exact trivial|assumption|exact qaf _|exact fun _ h => nomatch h|apply And.intro) (by repeat' first|exact trivial|assumption|exact qaf _|exact fun _ h => nomatch h|apply And.intro) fun S q pc hS hq hC hE => ?_
  conv => whnf
  repeat ((first|refine qap ‹_› ?_|refine qaq ‹_› ?_|refine pkF ‹_› ?_|refine qab ‹_› ?_|refine qak (gff ‹_›) ?_|refine qaj (gff ‹_›) ?_|refine pkT (gff ‹_›) ?_|refine qaa (gff ‹_›) ?_|refine qac hC (pa) ?_|refine qac hC (pb) ?_|refine qac hC (pP) ?_|refine qac hC (pB) ?_|refine qad hS (by kernel_rfl) ?_);conv => whnf)
  exact ⟨_,rfl,Wk.refl _⟩
end
end Go.Abs.Seat
