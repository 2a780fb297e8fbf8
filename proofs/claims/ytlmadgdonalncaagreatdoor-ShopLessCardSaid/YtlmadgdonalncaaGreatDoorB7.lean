/-
  The best new link: the program's search.
-/
import Derived.Test.YtlmadgdonalncaaGreatDoorU17
namespace Go.Abs.Seat
noncomputable section
open Go Go.Abs Go.Proofs.Tryz
set_option maxRecDepth 100000
set_option maxHeartbeats 40000000
attribute [local irreducible] IntKind.wrap pEq
def cB (f a lo:Nat):Nat → List Lk
 | 0 => []
 |j + 1 => cB f a lo j ++ [(f,a,lo + j)]
def cA (f lo w:Nat):Nat → List Lk
 | 0 => []
 |s + 1 => cA f lo w s ++ cB f (lo + s) lo w
def cF (N:List Lk) (lo w:Nat):Nat → List Lk
 | 0 => []
 |k + 1 => cF N lo w k ++ if (tr N k).length ≤ 2 then cA k lo w w else []
theorem qlu (f a lo:Nat):∀ j,(cB f a lo j).length = j
 | 0 => rfl
 |j + 1 => by rw [cB,List.length_append,qlu];rfl
theorem qlv (f lo w:Nat):∀ s,(cA f lo w s).length = s * w
 | 0 => by rw [Nat.zero_mul];rfl
 |s + 1 => by rw [cA,List.length_append,qlv,qlu,Nat.succ_mul]
theorem qtr (N:List Lk) (lo w:Nat):∀ k,(cF N lo w k).length ≤ k * (w * w)
 | 0 => Nat.zero_le _
 |k + 1 => by
  have :=qtr N lo w k
  rw [cF,List.length_append,Nat.succ_mul]
  split
  ·rw [qlv];omega
  ·simp only [List.length_nil];omega
theorem qwv {f a lo:Nat} {x:Lk}:∀ {j:Nat},x ∈ cB f a lo j ↔ x.1 = f ∧ x.2.1 = a ∧ lo ≤ x.2.2 ∧ x.2.2 < lo + j
 | 0 => by simp only [cB,List.not_mem_nil,false_iff];omega
 |j + 1 => by
  rw [cB,List.mem_append,qwv,List.mem_singleton]
  obtain ⟨x1,x2,x3⟩ :=x
  simp only [Prod.mk.injEq]
  omega
theorem qww {f lo w:Nat} {x:Lk}:∀ {s:Nat},x ∈ cA f lo w s ↔ x.1 = f ∧ (lo ≤ x.2.1 ∧ x.2.1 < lo + s) ∧ lo ≤ x.2.2 ∧ x.2.2 < lo + w
 | 0 => by simp only [cA,List.not_mem_nil,false_iff];omega
 |s + 1 => by
  rw [cA,List.mem_append,qww,qwv]
  omega
theorem qwu {N:List Lk} {lo w:Nat} {x:Lk}:∀ {k:Nat},x ∈ cF N lo w k ↔ x.1 < k ∧ (tr N x.1).length ≤ 2 ∧ (lo ≤ x.2.1 ∧ x.2.1 < lo + w) ∧ lo ≤ x.2.2 ∧ x.2.2 < lo + w
 | 0 => by simp only [cF,List.not_mem_nil,false_iff];omega
 |k + 1 => by
  rw [cF,List.mem_append,qwu]
  split
  ·rename_i h
   rw [qww]
   constructor
   ·rintro (h1 | h1)
    ·exact ⟨by omega,h1.2⟩
    ·exact ⟨by omega,by rw [h1.1];exact h,h1.2⟩
   ·rintro ⟨h1,h2⟩
    by_cases e:x.1 = k
    ·exact .inr ⟨e,h2.2⟩
    ·exact .inl ⟨by omega,h2⟩
  ·rename_i h
   simp only [List.not_mem_nil,or_false]
   constructor
   ·rintro ⟨h1,h2⟩;exact ⟨by omega,h2⟩
   ·rintro ⟨h1,h2⟩
    by_cases e:x.1 = k
    ·rw [e] at h2;exact absurd h2.1 h
    ·exact ⟨by omega,h2⟩
theorem qh3 (l:List Lk):qcf (lks (cL l)) (l.length * 3) = true :=by
 have :=qec (lks (cL l))
 rwa [lks_len,qf9] at this
theorem qzg (l:List Lk) (f a b:Nat):lks (cL (l ++ [(f,a,b)])) = lks (cL l) ++ [nv f,nv a,nv b] :=by
 rw [qwt,qh2];rfl
abbrev lkC (l:List Lk) (c:Nat):AV :=.lst (lks (cL l)) l.length (.ch c)
theorem qm8 (l:List Lk) (f a b c:Nat):AV.lst (lks (cL l) ++ [nv f,nv a,nv b]) (l.length + (0 + 1)) (.ch c) = lkC (l ++ [(f,a,b)]) c :=by
 unfold lkC
 rw [qzg,List.length_append];rfl
theorem qm7 (l:List Lk) (x:Lk) {ty:Nat}:AObj.chain (l.length + (0 + 1)) 3 ty = .chain (l ++ [x]).length 3 ty :=by
 rw [List.length_append];rfl
theorem qfe (l:List Lk) {c n:Nat} (h:c + 1 ≤ n):bd (lkC l c) ≤ n :=Nat.max_le.2 ⟨h,qae (qau _)⟩
abbrev obC (z:Lk):AObj :=.cells (.node (nv z.1) (.node (nv z.2.1) .nil .nil) (.node (nv z.2.2) .nil .nil)) 3 94
theorem qdf {S:Sub} {c:Code} {f:AS → KE → Prop} {s:AS} {K:KE} (h:∀ K0:KE,(∀ e s',K e s' → K0 e s') → S.loop c f s K0):S.loop c f s K :=h K fun _ _ h => h
theorem adds_pure {N:List Lk} (h:okN N) (h1:1 ≤ N.length) (hN:N.length ≤ 5) (M:List Int) (pP:Pure prog 89 [.agg [nkA N,nl M]] (.bool true)) {lo hi n d:Nat} (hlo:4 ≤ lo) (hle:lo ≤ hi) (hhi:hi ≤ 60) (hn:n ≤ 50000) (hd:1 ≤ d ∧ d ≤ 50000) :
  Pure prog 53 [.agg [nkA N,nl M],nv lo,nv hi,fv (Int.ofNat n) (Int.ofNat d)] (.tup [lkV (bsN N n d (cF N lo (hi + 1 - lo) (N.length + 1)) (cF N lo (hi + 1 - lo) (N.length + 1)).length),iv 0]) :=by
 have lN :=qau (cL N)
 have lM :=qal M
 have lR :=qag (zp (rtL N (N.length + 1)))
 have c1:decide ((tth (Int.ofNat lo) ∧ tth (Int.ofNat hi)) ∧ Int.ofNat lo ≤ Int.ofNat hi) = true :=decide_eq_true ⟨⟨tN_i ⟨hlo,by omega⟩,tN_i ⟨by omega,hhi⟩⟩,Int.ofNat_le.2 hle⟩
 have c2:decide (isF (Int.ofNat n) (Int.ofNat d)) = true :=decide_eq_true (qzj hn hd.1 hd.2)
 have n1 :=nt_t c1
 have n2 :=nt_t c2
 have pw :=qhj h h1 hN M
 have lW:Live noL (wiV N M) :=⟨⟨lN,fun _ e => nomatch e⟩,⟨lM,fun _ e => nomatch e⟩,⟨lR,fun _ e => nomatch e⟩,trivial⟩
 unfold wiV at pw
 have hw:1 ≤ hi + 1 - lo ∧ hi + 1 - lo ≤ 57 ∧ lo + (hi + 1 - lo) = hi + 1 :=by omega
 generalize hi + 1 - lo = w at hw
 have ww:w * w ≤ 57 * 57 :=Nat.mul_le_mul hw.2.1 hw.2.1
 have hwN:IntKind.i64.wrap ((N.length:Int) + 1) = Int.ofNat (N.length + 1) :=qa7 (m :=N.length + 1) (by omega)
 refine qas hE rfl (by repeat' first|exact trivial|assumption|exact qag _|exact fun _ h => nomatch h|apply And.intro) (by repeat' first|exact trivial|assumption|exact qag _|exact fun _ h => nomatch h|apply And.intro) fun S q pc hS hq hC hE => ?_
 conv => whnf
 repeat ((first|refine qai ‹_› ?_|refine qah ‹_› ?_|refine pkT ‹_› ?_|refine qaa ‹_› ?_|refine qao ‹_› ?_|refine qap ‹_› ?_|refine pkF ‹_› ?_|refine qac ‹_› ?_|refine qab hC (pP) ?_|refine qab hC (qg0 (Int.ofNat lo) (Int.ofNat hi)) ?_|refine qab hC (qfb (Int.ofNat n) (Int.ofNat d)) ?_|refine qab hC (pw) ?_|refine qad hS (by kernel_rfl) ?_);conv => whnf)
 have hlo1:IntKind.i64.wrap (Int.ofNat lo + 1) = Int.ofNat (lo + 1) :=qa7 (m :=lo + 1) (by omega)
 have c0:decide (0 < IntKind.i64.wrap ((N.length:Int) + 1)) = true :=by rw [hwN];exact decide_eq_true (by show (0:Int) < ((N.length + 1:Nat):Int);omega)
 refine qam hE hS ?_
 conv => whnf
 refine qaa (c0) ?_
 conv => whnf
 refine qab hC (qkq h.wf hN (a :=0) (Nat.zero_le _) (Nat.zero_le _)) ?_
 conv => whnf
 refine qam hE hS ?_
 conv => whnf
 refine qaa (decide_eq_true (show Int.ofNat lo ≤ Int.ofNat hi from Int.ofNat_le.2 hle)) ?_
 conv => whnf
 refine qam hE hS ?_
 conv => whnf
 refine qaa (decide_eq_true (show Int.ofNat lo ≤ Int.ofNat hi from Int.ofNat_le.2 hle)) ?_
 conv => whnf
 have hL0:(cF N lo w 0).length ≤ 20000 :=Nat.zero_le _
 have hsw0:0 * w ≤ 57 * 57 :=by omega
 refine qdf fun K hK => ?_
 refine qa4 hE hS (A :=Nat) [1,2,4,7,8,10,12,13,39,40] (fun j => [(11,lkC (cF N lo w 0 ++ cA 0 lo w 0 ++ cB 0 (lo + 0) lo j) 4),(14,nv (lo + j))]) (fun j => [(4,.chain (cF N lo w 0 ++ cA 0 lo w 0 ++ cB 0 (lo + 0) lo j).length 3 94)]) (fun _ => []) (fun j => j ≤ w) (fun j => w - j) 1 (kle rfl) rfl (zhg 5) (by omega) ?_
 intro j hj Q hQ
 obtain rfl:Q = 5 :=hQ
 conv => whnf
 by_cases hj2:j < w
 ·refine qaa (decide_eq_true (show Int.ofNat (lo + j) ≤ Int.ofNat hi from Int.ofNat_le.2 (by omega))) ?_
  conv => whnf
  have hX:(cF N lo w 0 ++ cA 0 lo w 0 ++ cB 0 (lo + 0) lo j).length ≤ 30000 :=by rw [List.length_append,List.length_append,qlv,qlu];omega
  refine qaa (decide_eq_true (show ((cF N lo w 0 ++ cA 0 lo w 0 ++ cB 0 (lo + 0) lo j).length + (0 + 1)) * 24 ≤ 140737488355328 by omega)) ?_
  conv => whnf
  refine qaa (decide_eq_true (show (cF N lo w 0 ++ cA 0 lo w 0 ++ cB 0 (lo + 0) lo j).length + (0 + 1) ≤ 9223372036854775807 by omega)) ?_
  conv => whnf
  refine qaa (qh3 (cF N lo w 0 ++ cA 0 lo w 0 ++ cB 0 (lo + 0) lo j)) ?_
  conv => whnf
  refine qaa (decide_eq_true rfl) ?_
  conv => whnf
  have eX:(cF N lo w 0 ++ cA 0 lo w 0 ++ cB 0 (lo + 0) lo j) ++ [(0,lo + 0,lo + j)] = (cF N lo w 0 ++ cA 0 lo w 0 ++ cB 0 (lo + 0) lo (j + 1)) :=by rw [cB,List.append_assoc,List.append_assoc]
  have e1 :=qm8 (cF N lo w 0 ++ cA 0 lo w 0 ++ cB 0 (lo + 0) lo j) 0 (lo + 0) (lo + j) 4
  have e2 :=qm7 (ty :=94) (cF N lo w 0 ++ cA 0 lo w 0 ++ cB 0 (lo + 0) lo j) (0,lo + 0,lo + j)
  rw [eX] at e1 e2
  exact ⟨j + 1,hj2,by omega,Nat.le_refl _,(zhg 5)⟩
 ·refine qac (decide_eq_false (show ¬ Int.ofNat (lo + j) ≤ Int.ofNat hi from fun z => by have :=Int.ofNat_le.1 z;omega)) ?_
  conv => whnf
  refine .inl (hK _ _ ?_)
  conv => whnf
  obtain rfl:w = j :=by omega
  have eM:cF N lo w 0 ++ cA 0 lo w 0 ++ cB 0 (lo + 0) lo w = cF N lo w 0 ++ cA 0 lo w 1 :=rfl
  have eM1 :=congrArg (fun l => lkC l 4) eM
  have eM2 :=congrArg (fun l => AObj.chain l.length 3 94) eM
  refine qdf fun K hK => ?_
  refine qa4 hE hS (A :=Nat) [1,2,4,7,8,10,12,39,40] (fun s => [(11,lkC (cF N lo w 0 ++ cA 0 lo w s) 4),(13,nv (lo + s))]) (fun s => [(4,.chain (cF N lo w 0 ++ cA 0 lo w s).length 3 94)]) (fun _ => []) (fun s => s ≤ w) (fun s => w - s) 1 (kle rfl) rfl (zhg 5) (by omega) ?_
  intro s hs Q hQ
  obtain rfl:Q = 5 :=hQ
  conv => whnf
  by_cases hs2:s < w
  ·refine qaa (decide_eq_true (show Int.ofNat (lo + s) ≤ Int.ofNat hi from Int.ofNat_le.2 (by omega))) ?_
   conv => whnf
   have hsw:s * w ≤ 57 * 57 :=Nat.mul_le_mul (by omega) hw.2.1
   have eI:(cF N lo w 0 ++ cA 0 lo w s) = (cF N lo w 0 ++ cA 0 lo w s) ++ cB 0 (lo + s) lo 0 :=(List.append_nil _).symm
   have eI1 :=congrArg (fun l => lkC l 4) eI
   have eI2 :=congrArg (fun l => AObj.chain l.length 3 94) eI
   refine qdf fun K hK => ?_
   refine qa4 hE hS (A :=Nat) [1,2,4,7,8,10,12,13,39,40] (fun j => [(11,lkC (cF N lo w 0 ++ cA 0 lo w s ++ cB 0 (lo + s) lo j) 4),(14,nv (lo + j))]) (fun j => [(4,.chain (cF N lo w 0 ++ cA 0 lo w s ++ cB 0 (lo + s) lo j).length 3 94)]) (fun _ => []) (fun j => j ≤ w) (fun j => w - j) 0 (kle rfl) rfl (zhg 5) (by omega) ?_
   intro j hj Q hQ
   obtain rfl:Q = 5 :=hQ
   conv => whnf
   by_cases hj2:j < w
   ·refine qaa (decide_eq_true (show Int.ofNat (lo + j) ≤ Int.ofNat hi from Int.ofNat_le.2 (by omega))) ?_
    conv => whnf
    have hX:(cF N lo w 0 ++ cA 0 lo w s ++ cB 0 (lo + s) lo j).length ≤ 30000 :=by rw [List.length_append,List.length_append,qlv,qlu];omega
    refine qaa (decide_eq_true (show ((cF N lo w 0 ++ cA 0 lo w s ++ cB 0 (lo + s) lo j).length + (0 + 1)) * 24 ≤ 140737488355328 by omega)) ?_
    conv => whnf
    refine qaa (decide_eq_true (show (cF N lo w 0 ++ cA 0 lo w s ++ cB 0 (lo + s) lo j).length + (0 + 1) ≤ 9223372036854775807 by omega)) ?_
    conv => whnf
    refine qaa (qh3 (cF N lo w 0 ++ cA 0 lo w s ++ cB 0 (lo + s) lo j)) ?_
    conv => whnf
    refine qaa (decide_eq_true rfl) ?_
    conv => whnf
    have eX:(cF N lo w 0 ++ cA 0 lo w s ++ cB 0 (lo + s) lo j) ++ [(0,lo + s,lo + j)] = (cF N lo w 0 ++ cA 0 lo w s ++ cB 0 (lo + s) lo (j + 1)) :=by rw [cB,List.append_assoc,List.append_assoc]
    have e1 :=qm8 (cF N lo w 0 ++ cA 0 lo w s ++ cB 0 (lo + s) lo j) 0 (lo + s) (lo + j) 4
    have e2 :=qm7 (ty :=94) (cF N lo w 0 ++ cA 0 lo w s ++ cB 0 (lo + s) lo j) (0,lo + s,lo + j)
    rw [eX] at e1 e2
    exact ⟨j + 1,hj2,by omega,Nat.le_refl _,(zhg 5)⟩
   ·refine qac (decide_eq_false (show ¬ Int.ofNat (lo + j) ≤ Int.ofNat hi from fun z => by have :=Int.ofNat_le.1 z;omega)) ?_
    conv => whnf
    refine .inl (hK _ _ ?_)
    conv => whnf
    obtain rfl:w = j :=by omega
    have eX:(cF N lo w 0 ++ cA 0 lo w s) ++ cB 0 (lo + s) lo w = (cF N lo w 0 ++ cA 0 lo w (s + 1)) :=by rw [cA,List.append_assoc]
    rw [eX]
    exact ⟨s + 1,hs2,by omega,Nat.le_refl _,(zhg 5)⟩
  ·refine qac (decide_eq_false (show ¬ Int.ofNat (lo + s) ≤ Int.ofNat hi from fun z => by have :=Int.ofNat_le.1 z;omega)) ?_
   conv => whnf
   refine .inl (hK _ _ ?_)
   conv => whnf
   obtain rfl:w = s :=by omega
   have eO:cF N lo w 0 ++ cA 0 lo w w = cF N lo w 1 :=by show [] ++ cA 0 lo w w = [] ++ (if (tr N 0).length ≤ 2 then cA 0 lo w w else []);rw [qw5,if_pos (show ([]:List (Nat × Nat)).length ≤ 2 by decide)]
   have eO1 :=congrArg (fun l => lkC l 4) eO
   have eO2 :=congrArg (fun l => AObj.chain l.length 3 94) eO
   refine qdf fun K hK => ?_
   refine qa4 hE hS (A :=Nat × List Lk) [1,2,4,7,8,10,39] (fun (k,l) => [(11,lkC l 4),(40,nv k)]) (fun (_,l) => [(4,.chain l.length 3 94)]) (fun _ => []) (fun (k,l) => k ≤ N.length + 1 ∧ l = cF N lo w k) (fun (k,_) => N.length + 1 - k) (1,cF N lo w 1) (kle rfl) rfl (zhg 5) ⟨by omega,rfl⟩ ?_
   rintro ⟨k,l⟩ ⟨hk,hl⟩ Q hQ
   obtain rfl:Q = 5 :=hQ
   conv => whnf
   by_cases hk2:k < N.length + 1
   ·refine qaa ((show decide (Int.ofNat k < IntKind.i64.wrap ((N.length:Int) + 1)) = true by rw [hwN];exact decide_eq_true (Int.ofNat_lt.2 hk2))) ?_
    conv => whnf
    refine qab hC (qkq h.wf hN (a :=k) (by omega) (h.dl (by omega))) ?_
    conv => whnf
    have hL0:l.length ≤ 20000 :=by
     rw [hl]
     have g1 :=qtr N lo w k
     have g2:k * (w * w) ≤ 6 * (57 * 57) :=Nat.mul_le_mul (by omega) ww
     omega
    by_cases hd3:(tr N k).length ≤ 2
    ·refine qac (decide_eq_false (show ¬ (Int.ofNat (tr N k).length ≥ 3) from fun z => by have z:(3:Int) ≤ ((tr N k).length:Int) :=z;omega)) ?_
     conv => whnf
     have eM:l = l ++ cA k lo w 0 :=(List.append_nil _).symm
     have eM1 :=congrArg (fun l => lkC l 4) eM
     have eM2 :=congrArg (fun l => AObj.chain l.length 3 94) eM
     refine qdf fun K hK => ?_
     refine qa4 hE hS (A :=Nat) [1,2,4,7,8,10,12,39,40] (fun s => [(11,lkC (l ++ cA k lo w s) 4),(13,nv (lo + s))]) (fun s => [(4,.chain (l ++ cA k lo w s).length 3 94)]) (fun _ => []) (fun s => s ≤ w) (fun s => w - s) 0 (kle rfl) rfl (zhg 5) (by omega) ?_
     intro s hs Q hQ
     obtain rfl:Q = 5 :=hQ
     conv => whnf
     by_cases hs2:s < w
     ·refine qaa (decide_eq_true (show Int.ofNat (lo + s) ≤ Int.ofNat hi from Int.ofNat_le.2 (by omega))) ?_
      conv => whnf
      have hsw:s * w ≤ 57 * 57 :=Nat.mul_le_mul (by omega) hw.2.1
      have eI:(l ++ cA k lo w s) = (l ++ cA k lo w s) ++ cB k (lo + s) lo 0 :=(List.append_nil _).symm
      have eI1 :=congrArg (fun l => lkC l 4) eI
      have eI2 :=congrArg (fun l => AObj.chain l.length 3 94) eI
      refine qdf fun K hK => ?_
      refine qa4 hE hS (A :=Nat) [1,2,4,7,8,10,12,13,39,40] (fun j => [(11,lkC (l ++ cA k lo w s ++ cB k (lo + s) lo j) 4),(14,nv (lo + j))]) (fun j => [(4,.chain (l ++ cA k lo w s ++ cB k (lo + s) lo j).length 3 94)]) (fun _ => []) (fun j => j ≤ w) (fun j => w - j) 0 (kle rfl) rfl (zhg 5) (by omega) ?_
      intro j hj Q hQ
      obtain rfl:Q = 5 :=hQ
      conv => whnf
      by_cases hj2:j < w
      ·refine qaa (decide_eq_true (show Int.ofNat (lo + j) ≤ Int.ofNat hi from Int.ofNat_le.2 (by omega))) ?_
       conv => whnf
       have hX:(l ++ cA k lo w s ++ cB k (lo + s) lo j).length ≤ 30000 :=by rw [List.length_append,List.length_append,qlv,qlu];omega
       refine qaa (decide_eq_true (show ((l ++ cA k lo w s ++ cB k (lo + s) lo j).length + (0 + 1)) * 24 ≤ 140737488355328 by omega)) ?_
       conv => whnf
       refine qaa (decide_eq_true (show (l ++ cA k lo w s ++ cB k (lo + s) lo j).length + (0 + 1) ≤ 9223372036854775807 by omega)) ?_
       conv => whnf
       refine qaa (qh3 (l ++ cA k lo w s ++ cB k (lo + s) lo j)) ?_
       conv => whnf
       refine qaa (decide_eq_true rfl) ?_
       conv => whnf
       have eX:(l ++ cA k lo w s ++ cB k (lo + s) lo j) ++ [(k,lo + s,lo + j)] = (l ++ cA k lo w s ++ cB k (lo + s) lo (j + 1)) :=by rw [cB,List.append_assoc,List.append_assoc]
       have e1 :=qm8 (l ++ cA k lo w s ++ cB k (lo + s) lo j) k (lo + s) (lo + j) 4
       have e2 :=qm7 (ty :=94) (l ++ cA k lo w s ++ cB k (lo + s) lo j) (k,lo + s,lo + j)
       rw [eX] at e1 e2
       exact ⟨j + 1,hj2,by omega,Nat.le_refl _,(zhg 5)⟩
      ·refine qac (decide_eq_false (show ¬ Int.ofNat (lo + j) ≤ Int.ofNat hi from fun z => by have :=Int.ofNat_le.1 z;omega)) ?_
       conv => whnf
       refine .inl (hK _ _ ?_)
       conv => whnf
       obtain rfl:w = j :=by omega
       have eX:(l ++ cA k lo w s) ++ cB k (lo + s) lo w = (l ++ cA k lo w (s + 1)) :=by rw [cA,List.append_assoc]
       rw [eX]
       exact ⟨s + 1,hs2,by omega,Nat.le_refl _,(zhg 5)⟩
     ·refine qac (decide_eq_false (show ¬ Int.ofNat (lo + s) ≤ Int.ofNat hi from fun z => by have :=Int.ofNat_le.1 z;omega)) ?_
      conv => whnf
      refine .inl (hK _ _ ?_)
      conv => whnf
      obtain rfl:w = s :=by omega
      have eF:l ++ cA k lo w w = cF N lo w (k + 1) :=by rw [cF,if_pos hd3,hl]
      exact ⟨(k + 1,l ++ cA k lo w w),⟨by omega,eF⟩,by show N.length + 1 - (k + 1) < N.length + 1 - k;omega,Nat.le_refl _,(zhg 5)⟩
    ·refine qaa (decide_eq_true (show Int.ofNat (tr N k).length ≥ 3 from (by omega:(3:Int) ≤ ((tr N k).length:Int)))) ?_
     conv => whnf
     have eF:l = cF N lo w (k + 1) :=by rw [cF,if_neg hd3,List.append_nil,hl]
     exact ⟨(k + 1,l),⟨by omega,eF⟩,by show N.length + 1 - (k + 1) < N.length + 1 - k;omega,Nat.le_refl _,(zhg 5)⟩
   ·refine qac ((show decide (Int.ofNat k < IntKind.i64.wrap ((N.length:Int) + 1)) = false by rw [hwN];exact decide_eq_false fun z => hk2 (Int.ofNat_lt.1 z))) ?_
    conv => whnf
    refine .inl (hK _ _ ?_)
    conv => whnf
    obtain rfl:N.length + 1 = k :=by omega
    have hnl:∀ x,x ∈ l → nwL N x :=fun x hx => by rw [hl] at hx;have :=qwu.1 hx;exact ⟨by omega,by omega,by omega⟩
    have hL0:l.length ≤ 20000 :=by
     have g1 :=qtr N lo w (N.length + 1)
     have g2:(N.length + 1) * (w * w) ≤ 6 * (57 * 57) :=Nat.mul_le_mul (by omega) ww
     rw [hl];omega
    have lL :=qau (cL l)
    refine qar hC ?_
    conv => whnf
    refine qan hE hS ?_
    conv => whnf
    refine qdf fun K hK => ?_
    refine qa4 hE hS (A :=Nat) [0,1,4,6,9,10] (fun i => [(11,nv i)]) (fun i => [(7,obC (bsN N n d l i))]) (fun _ => []) (fun i => i ≤ l.length) (fun i => l.length - i) 0 (kle rfl) rfl (zhg 8) (Nat.zero_le _) ?_
    intro i hi Q hQ
    obtain rfl:Q = 8 :=hQ
    conv => whnf
    by_cases hi2:i < l.length
    ·have hi1:IntKind.i64.wrap (Int.ofNat i + 1) = Int.ofNat (i + 1) :=qa7 (m :=i + 1) (by omega)
     refine qaa (qa3 hi2) ?_
     conv => whnf
     refine qaa (qav hi2) ?_
     conv => whnf
     refine qaf (takP (qy2 l hi2)) ?_
     conv => whnf
     by_cases ei:i = 0
     ·have eb :=congrArg obC (show bsN N n d l (i + 1) = gN l i by rw [bsN,if_pos (.inl ei)]).symm
      have ce:(Int.ofNat i == 0) = true :=by rw [beq_iff_eq];show (i:Int) = 0;omega
      repeat ((first|refine qai ce ?_|refine qah ce ?_|refine pkT ce ?_|refine qaa ce ?_|refine qad hS (by kernel_rfl) ?_);conv => whnf)
      exact ⟨i + 1,hi2,by omega,Nat.le_refl _,(zhg 8)⟩
     ·have ce:(Int.ofNat i == 0) = false :=by rw [beq_eq_false_iff_ne];intro z;have z:(i:Int) = 0 :=z;omega
      have hbt :=qvq h (M :=M) hn hd.2 (W0 :=.cells (.node (nkA N) (.node (nl M) .nil .nil) .nil) 2 64) (W2 :=.cells (.node (iv 0) (.node (iv 0) .nil .nil) (.node (iv 0) .nil .nil)) 3 94) (W4 :=.chain l.length 3 94) ⟨Nat.max_le.2 ⟨Nat.zero_le _,qae lN⟩,⟨Nat.max_le.2 ⟨Nat.zero_le _,qae lM⟩,trivial,trivial⟩,trivial⟩ ⟨Nat.zero_le _,⟨Nat.zero_le _,trivial,trivial⟩,⟨Nat.zero_le _,trivial,trivial⟩⟩ trivial (hnl _ (qwf l hi2)) (qwx (n :=n) (d :=d) hnl i hi)
      repeat ((first|refine qao ce ?_|refine qap ce ?_|refine pkF ce ?_|refine qac ce ?_|refine qad hS (by kernel_rfl) ?_);conv => whnf)
      refine qa6 hC (HFun.pureR hbt (ob6 rfl rfl rfl rfl rfl rfl)) ?_
      conv => whnf
      by_cases hb:btL N n d (gN l i) (bsN N n d l i)
      ·have eb :=congrArg obC (show bsN N n d l (i + 1) = gN l i by rw [bsN,if_pos (.inr hb)]).symm
       have cb :=decide_eq_true hb
       repeat ((first|refine qai ‹_› ?_|refine qah ‹_› ?_|refine pkT ‹_› ?_|refine qaa ‹_› ?_|refine qao ‹_› ?_|refine qap ‹_› ?_|refine pkF ‹_› ?_|refine qac ‹_› ?_|refine qad hS (by kernel_rfl) ?_);conv => whnf)
       exact ⟨i + 1,hi2,by omega,Nat.le_refl _,(zhg 8)⟩
      ·have eb :=congrArg obC (show bsN N n d l (i + 1) = (bsN N n d l i) by rw [bsN,if_neg (by rintro (z | z);exact ei z;exact hb z)]).symm
       have cb :=decide_eq_false hb
       repeat ((first|refine qai ‹_› ?_|refine qah ‹_› ?_|refine pkT ‹_› ?_|refine qaa ‹_› ?_|refine qao ‹_› ?_|refine qap ‹_› ?_|refine pkF ‹_› ?_|refine qac ‹_› ?_|refine qad hS (by kernel_rfl) ?_);conv => whnf)
       exact ⟨i + 1,hi2,by omega,Nat.le_refl _,(zhg 8)⟩
    ·refine qac (qbn hi2) ?_
     conv => whnf
     refine .inl (hK _ _ ?_)
     conv => whnf
     obtain rfl:l.length = i :=by omega
     rw [← hl]
     exact ⟨_,rfl,Wk.refl _⟩
end
end Go.Abs.Seat
