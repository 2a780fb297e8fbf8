/-
  A text of a piece, read by the document: the rows.
-/
import Derived.Test.YtlmadgdonalncaaGreatDoorU13
import Derived.Test.YtlmadgdonalncaaGreatDoorU11
import Derived.Test.YtlmadgdonalncaaGreatDoorU10
import Derived.Test.YtlmadgdonalncaaGreatDoorU5
namespace Go.Abs.Seat
noncomputable section
open Go Go.Abs Go.Proofs.Tryz
set_option maxRecDepth 100000
set_option maxHeartbeats 40000000
attribute [local irreducible] IntKind.wrap pEq
def isLk (s:List UInt8) (VV:List (List Nat)) (i:Nat):Prop :=gB (spl 32 (gB (spl 10 s) (i + 1))) 0 = qen ∧ (VV.getD i []).length = 3
def isHd (s:List UInt8) (VV:List (List Nat)) (i:Nat):Prop :=gB (spl 32 (gB (spl 10 s) (i + 1))) 0 = qfb ∧ (VV.getD i []).length = 1
instance (s:List UInt8) (VV:List (List Nat)) (i:Nat):Decidable (isLk s VV i) :=Classical.propDecidable _
instance (s:List UInt8) (VV:List (List Nat)) (i:Nat):Decidable (isHd s VV i) :=Classical.propDecidable _
def lkF (s:List UInt8) (VV:List (List Nat)):Nat → List Lk
 | 0 => []
 |i + 1 => if isLk s VV i then lkF s VV i ++ [(gn (VV.getD i []) 0,gn (VV.getD i []) 1,gn (VV.getD i []) 2)] else lkF s VV i
def hdF (s:List UInt8) (VV:List (List Nat)):Nat → List Nat
 | 0 => []
 |i + 1 => if isHd s VV i then hdF s VV i ++ [gn (VV.getD i []) 0] else hdF s VV i
theorem qui (s:List UInt8) (VV:List (List Nat)):∀ i,(lkF s VV i).length ≤ i
 | 0 => Nat.le_refl _
 |i + 1 => by
  have :=qui s VV i
  rw [lkF]
  split
  ·rw [List.length_append]
   exact Nat.succ_le_succ this
  ·omega
theorem quk (s:List UInt8) (VV:List (List Nat)):∀ i,(hdF s VV i).length ≤ i
 | 0 => Nat.le_refl _
 |i + 1 => by
  have :=quk s VV i
  rw [hdF]
  split
  ·rw [List.length_append]
   exact Nat.succ_le_succ this
  ·omega
def rowV (s:List UInt8) (i:Nat) (V:List Nat):Prop :=∀ k,k < V.length → gn V k < 100 ∧ gB (spl 32 (gB (spl 10 s) (i + 1))) (k + 1) = dec (gn V k)
def rowG (s:List UInt8) (i:Nat) (V:List Nat):Prop :=V.length + 1 = (spl 32 (gB (spl 10 s) (i + 1))).length ∧ rowV s i V
theorem qri {s:List UInt8} {VV:List (List Nat)} (h:∀ i,i < VV.length → rowG s i (VV.getD i [])):∀ i,i ≤ VV.length → okT (lkF s VV i) (hdF s VV i)
 | 0,_ => ⟨(fun _ k => nomatch k),(fun _ k => nomatch k)⟩
 |i + 1,hi => by
  have ih :=qri h i (by omega)
  have r :=(h i hi).2
  rw [lkF,hdF]
  refine ⟨?_,?_⟩
  ·split
   ·rename_i k
    intro x hx
    rcases List.mem_append.1 hx with hx | hx
    ·exact ih.1 x hx
    ·rw [List.mem_singleton.1 hx]
     exact ⟨(r 0 (by rw [k.2];decide)).1,(r 1 (by rw [k.2];decide)).1,(r 2 (by rw [k.2];decide)).1⟩
   ·exact ih.1
  ·split
   ·rename_i k
    intro x hx
    rcases List.mem_append.1 hx with hx | hx
    ·exact ih.2 x hx
    ·rw [List.mem_singleton.1 hx]
     exact (r 0 (by rw [k.2];decide)).1
   ·exact ih.2
def lkW (N:List Lk) (c:Nat):AV :=.lst (lks (cL N)) N.length (.ch c)
def hdW (H:List Nat) (c:Nat):AV :=.lst (ivs (zl H)) H.length (.ch c)
def nuW (V:List Nat) (k c:Nat):AV :=.lst (ivs (zl (V.take k))) k (.ch c)
def bL (n:Nat):List AObj :=[.chain 3 1 3,.hole,.hole,.hole,.hole,.hole,.hole,.hole,.hole,.hole,.hole,.hole,.hole,.hole,.hole,.chain n 3 94,.hole,.hole]
def bH (n:Nat):List AObj :=[.chain 1 1 3,.hole,.hole,.hole,.hole,.hole,.hole,.chain n 1 3,.hole,.hole]
theorem qa6 (N:List Lk) {c n:Nat} (h:c + 1 ≤ n):bd (lkW N c) ≤ n :=Nat.max_le.2 ⟨h,qai (qa5 _)⟩
theorem qa7 (H:List Nat) {c n:Nat} (h:c + 1 ≤ n):bd (hdW H c) ≤ n :=Nat.max_le.2 ⟨h,qai (qav _)⟩
theorem qba (V:List Nat) (k:Nat) {c n:Nat} (h:c + 1 ≤ n):bd (nuW V k c) ≤ n :=Nat.max_le.2 ⟨h,qai (qav _)⟩
def St (N:List Lk) (H:List Nat) (v w:AV) (ux:List AObj):Prop :=
 (N = [] ∧ H = [] ∧ v = .nils ∧ w = .nils ∧ ux = []) ∨ (N ≠ [] ∧ H = [] ∧ v = lkW N 17 ∧ w = .nils ∧ ux = bL N.length) ∨ (N = [] ∧ H ≠ [] ∧ v = .nils ∧ w = hdW H 9 ∧ ux = bH H.length) ∨ (N ≠ [] ∧ H ≠ [] ∧ v = lkW N 17 ∧ w = hdW H 27 ∧ ux = bL N.length ++ bH H.length) ∨ (N ≠ [] ∧ H ≠ [] ∧ v = lkW N 27 ∧ w = hdW H 9 ∧ ux = bH H.length ++ bL N.length)
theorem lk_1 (x:Lk) (c:Nat):AV.lst [nv x.1,nv x.2.1,nv x.2.2] (0 + 1) (.ch c) = lkW [x] c :=rfl
theorem lk_n (N:List Lk) (x:Lk) (c:Nat):AV.lst (lks (cL N) ++ [nv x.1,nv x.2.1,nv x.2.2]) (N.length + (0 + 1)) (.ch c) = lkW (N ++ [x]) c :=by
 unfold lkW
 rw [qlc,qj3,List.length_append];rfl
theorem hd_1 (x:Nat) (c:Nat):AV.lst [nv x] (0 + 1) (.ch c) = hdW [x] c :=rfl
theorem hd_n (H:List Nat) (x:Nat) (c:Nat):AV.lst (ivs (zl H) ++ [nv x]) (H.length + (0 + 1)) (.ch c) = hdW (H ++ [x]) c :=by
 unfold hdW
 rw [qpb,List.length_append];rfl
theorem nu_1 (V:List Nat) (c:Nat) (h:0 < V.length):AV.lst [nv (gn V 0)] (0 + 1) (.ch c) = nuW V 1 c :=qef V c h
theorem nu_n (V:List Nat) (c:Nat) {k:Nat} (h:k < V.length):AV.lst (ivs (zl (V.take k)) ++ [nv (gn V k)]) (k + (0 + 1)) (.ch c) = nuW V (k + 1) c :=qfo V c h
theorem qh2 (N:List Lk):qc6 (lks (cL N)) (N.length * 3) = true :=by
 have :=qcp (lks (cL N))
 rwa [lks_len,qcu] at this
theorem qh3 (H:List Nat):qc6 (ivs (zl H)) (H.length * 1) = true :=by
 have :=qcp (ivs (zl H))
 rw [ivs_len,qbs] at this
 rwa [Nat.mul_one]
theorem qfz (V:List Nat) {k:Nat} (h:k ≤ V.length):qc6 (ivs (zl (V.take k))) (k * 1) = true :=qee V h
theorem qeq {N:List Lk} {H:List Nat} {v w:AV} {ux:List AObj} (h:okT N H) (hN:N.length ≤ 400) (hH:H.length ≤ 400) (st:St N H v w ux):Pure prog 45 [.agg [v,w]] (.str (prtB N H)) :=by
 have e1:∀ c,wk (lkW N c) = nkA N :=fun c => by
  simp only [lkW,wk,qf7]
 have e2:∀ c,wk (hdW H c) = nl (zl H) :=fun c => by
  simp only [hdW,wk,qfi]
  show AV.lst _ _ _ = AV.lst _ (zl H).length _
  rw [qbs]
 have kx:wk v = .nils ∧ N = [] ∨ wk v = nkA N ∧ N ≠ [] :=by
  rcases st with ⟨a,b,rfl,rfl,_⟩ | ⟨a,b,rfl,rfl,_⟩ | ⟨a,b,rfl,rfl,_⟩ | ⟨a,b,rfl,rfl,_⟩ | ⟨a,b,rfl,rfl,_⟩
  all_goals first|exact .inl ⟨rfl,a⟩|exact .inr ⟨e1 _,a⟩
 have ky:wk w = .nils ∧ H = [] ∨ wk w = nl (zl H) ∧ H ≠ [] :=by
  rcases st with ⟨a,b,rfl,rfl,_⟩ | ⟨a,b,rfl,rfl,_⟩ | ⟨a,b,rfl,rfl,_⟩ | ⟨a,b,rfl,rfl,_⟩ | ⟨a,b,rfl,rfl,_⟩
  all_goals first|exact .inl ⟨rfl,b⟩|exact .inr ⟨e2 _,b⟩
 exact Pure.ofWk (qls (x :=wk v) (y :=wk w) h hN hH kx ky)
theorem qpi {N:List Lk} {H:List Nat} {v w:AV} {ux:List AObj} {b:Bool} (st:St N H v w ux):Wk (.tup [.agg [v,w],.bool b]) (.tup [.agg [xN N,yH H],.bool b]) :=by
 have e1:∀ c,wk (lkW N c) = nkA N :=fun c => by
  simp only [lkW,wk,qf7]
 have e2:∀ c,wk (hdW H c) = nl (zl H) :=fun c => by
  simp only [hdW,wk,qfi]
  show AV.lst _ _ _ = AV.lst _ (zl H).length _
  rw [qbs]
 have k1:wk v = xN N :=by
  rcases st with ⟨a,b,rfl,rfl,_⟩ | ⟨a,b,rfl,rfl,_⟩ | ⟨a,b,rfl,rfl,_⟩ | ⟨a,b,rfl,rfl,_⟩ | ⟨a,b,rfl,rfl,_⟩
  all_goals first|(rw [xN,if_pos a];rfl) | (rw [xN,if_neg a,e1])
 have k2:wk w = yH H :=by
  rcases st with ⟨a,b,rfl,rfl,_⟩ | ⟨a,b,rfl,rfl,_⟩ | ⟨a,b,rfl,rfl,_⟩ | ⟨a,b,rfl,rfl,_⟩ | ⟨a,b,rfl,rfl,_⟩
  all_goals first|(rw [yH,if_pos b];rfl) | (rw [yH,if_neg b,e2])
 have k :=Wk.wk (.tup [.agg [v,w],.bool b])
 rw [← k1,← k2]
 exact k
abbrev rF:AV :=.tup [.agg [.nils,.nils],.bool false]
def endR (s:List UInt8) (VV:List (List Nat)) (r:AV):Prop :=
 (VV.length = (spl 10 s).length - 3 ∧ ((prtB (lkF s VV VV.length) (hdF s VV VV.length) = s ∧ r = .tup [.agg [xN (lkF s VV VV.length),yH (hdF s VV VV.length)],.bool true]) ∨ (prtB (lkF s VV VV.length) (hdF s VV VV.length) ≠ s ∧ r = rF))) ∨
 (VV.length < (spl 10 s).length - 3 ∧ r = rF ∧ ∃ V,rowV s VV.length V ∧ V.length + 1 < (spl 32 (gB (spl 10 s) (VV.length + 1))).length ∧ Pure prog 98 [.str (gB (spl 32 (gB (spl 10 s) (VV.length + 1))) (V.length + 1))] (iv (-1)))
theorem endR.no {s:List UInt8} {VV:List (List Nat)} {r:AV} (h:endR s VV r):Live noL r :=by
 rcases h with ⟨_,⟨_,rfl⟩ | ⟨_,rfl⟩⟩ | ⟨_,rfl,_⟩
 ·exact ⟨⟨qwv _,qwt _,trivial⟩,trivial,trivial⟩
 ·exact ⟨⟨trivial,trivial,trivial⟩,trivial,trivial⟩
 ·exact ⟨⟨trivial,trivial,trivial⟩,trivial,trivial⟩
theorem qku {s:List UInt8} {VV:List (List Nat)} {r:AV} (h:∀ i,i < VV.length → rowG s i (VV.getD i [])) (he:endR s VV r) {i:Nat} (hi:i < (spl 10 s).length - 3) (hi2:i ≤ VV.length):∃ V,rowV s i V ∧ ((V.length + 1 = (spl 32 (gB (spl 10 s) (i + 1))).length ∧ i < VV.length ∧ V = VV.getD i []) ∨ (V.length + 1 < (spl 32 (gB (spl 10 s) (i + 1))).length ∧ r = rF ∧ Pure prog 98 [.str (gB (spl 32 (gB (spl 10 s) (i + 1))) (V.length + 1))] (iv (-1)))) :=by
 by_cases k:i < VV.length
 ·exact ⟨_,(h i k).2,.inl ⟨(h i k).1,k,rfl⟩⟩
 ·have e:i = VV.length :=by omega
  subst e
  rcases he with ⟨l,_⟩ | ⟨_,hr,V,h1,h2,h3⟩
  ·omega
  ·exact ⟨V,h1,.inr ⟨h2,hr,h3⟩⟩
theorem qhp {s:List UInt8} (hs:s.length ≤ 300) {VV:List (List Nat)} {r:AV} (hm:VV.length ≤ (spl 10 s).length - 3) (hrow:∀ i,i < VV.length → rowG s i (VV.getD i [])) (hend:endR s VV r):Pure prog 47 [.str s] r :=by
 have lr :=hend.no
 have lS :=qa1 (spl 10 s)
 have hl :=qfd 10 s
 have hp:0 < (spl 10 s).length :=by rw [qc9];omega
 have pS :=qcw s 10 (by omega)
 have wR:IntKind.i64.wrap (((spl 10 s).length:Int) - 2) = ((spl 10 s).length:Int) - 2 :=qel (by omega) (by omega)
 refine qas hE rfl (by repeat' first|exact trivial|assumption|exact qah _|exact fun _ h => nomatch h|apply And.intro) (by repeat' first|exact trivial|assumption|exact qah _|exact fun _ h => nomatch h|apply And.intro) fun S q pc hS hq hC hE => ?_
 conv => whnf
 repeat ((first|refine qac hC (pS) ?_|refine qad hS (by kernel_rfl) ?_);conv => whnf)
 have hE0 :=hE
 refine qax hE hS (A :=Nat × AV × AV × List AObj) [0,2,3,4,5] (fun (i,_,_,_) => [(6,nv (i + 1))]) (fun (_,v,w,_) => [(1,.cells (.node v (.node w .nil .nil) .nil) 2 64)]) (fun a => a.2.2.2) (fun (i,v,w,ux) => i ≤ VV.length ∧ St (lkF s VV i) (hdF s VV i) v w ux) (fun (i,_,_,_) => VV.length + 1 - i) (0,.nils,.nils,[]) (kle rfl) rfl (by refine ⟨rfl,rfl,rfl,rfl,rfl,rfl,2,rfl,?_,?_⟩ <;> repeat' (first|exact trivial|exact rfl|exact wkr rfl|exact wko rfl|exact Nat.zero_le _|exact qa6 _ (by decide)|exact qa7 _ (by decide)|exact kle rfl|exact bdq|exact mxI rfl|exact mxS rfl|apply And.intro)) ⟨Nat.zero_le _,.inl ⟨rfl,rfl,rfl,rfl,rfl⟩⟩ ?_
 rintro ⟨i,v,w,ux⟩ ⟨hi,hst⟩ K hK
 have hi:i ≤ VV.length :=hi
 have hok :=qri hrow i hi
 have hNl :=qui s VV i
 have hHl :=quk s VV i
 have hst:St (lkF s VV i) (hdF s VV i) v w ux :=hst
 obtain ⟨N,eN⟩ : ∃ N,N = lkF s VV i :=⟨_,rfl⟩
 obtain ⟨H,eM⟩ : ∃ H,H = hdF s VV i :=⟨_,rfl⟩
 rw [← eN,← eM] at hst hok
 rw [← eN] at hNl
 rw [← eM] at hHl
 have lN :=qa5 (cL N)
 have lH :=qav (zl H)
 refine Or.elim hst (fun hst => ?_) fun hst => Or.elim hst (fun hst => ?_) fun hst => Or.elim hst (fun hst => ?_) fun hst => Or.elim hst (fun hst => ?_) fun hst => ?_
 ·obtain ⟨sN,sH,rfl,rfl,rfl⟩ :=hst
  obtain rfl:K = 2 :=hK
  conv => whnf
  by_cases him:i < (spl 10 s).length - 3
  ·have c1:decide (Int.ofNat (i + 1) < IntKind.i64.wrap (((spl 10 s).length:Int) - 2)) = true :=decide_eq_true (by rw [wR];simp only [Int.ofNat_eq_natCast];omega)
   have hi1:IntKind.i64.wrap (Int.ofNat (i + 1) + 1) = Int.ofNat (i + 1 + 1) :=qaz (m :=i + 1 + 1) (by omega)
   have hil:i + 1 < (spl 10 s).length :=by omega
   have gR:nth (stA (spl 10 s)) ((i + 1) * 1) = some (.str (gB (spl 10 s) (i + 1))) :=qa9 hil
   have hgl :=qk6 10 s (i + 1)
   have pW :=qcw (gB (spl 10 s) (i + 1)) 32 (by omega)
   have lW :=qa1 (spl 32 (gB (spl 10 s) (i + 1)))
   have hwl :=qfd 32 (gB (spl 10 s) (i + 1))
   have hw0:0 < (spl 32 (gB (spl 10 s) (i + 1))).length :=by rw [qc9];omega
   have ir:inR 0 (spl 32 (gB (spl 10 s) (i + 1))).length = true :=qaj (i :=0) hw0
   have g0:nth (stA (spl 32 (gB (spl 10 s) (i + 1)))) (0:Int).toNat = some (.str (gB (spl 32 (gB (spl 10 s) (i + 1))) 0)) :=qa9 (i :=0) hw0
   obtain ⟨V,hV9,hE⟩ :=qku hrow hend him hi
   have lV :=qav (zl V)
   repeat ((first|refine qak (nthP gR) ?_|refine qag c1 ?_|refine qaf c1 ?_|refine pkT c1 ?_|refine qaa c1 ?_|refine qag (qaj hil) ?_|refine qaf (qaj hil) ?_|refine pkT (qaj hil) ?_|refine qaa (qaj hil) ?_|refine qac hC (pW) ?_|refine qad hS (by kernel_rfl) ?_);conv => whnf)
   refine qax hE0 hS (A :=Nat × AV × List AObj) [0,2,3,4,5,6,7] (fun (j,n,_) => [(8,n),(9,nv (j + 1))]) (fun _ => []) (fun a => a.2.2) (fun (j,n,ux) => j ≤ V.length ∧ (j = 0 ∧ n = .nils ∧ ux = [] ∨ 0 < j ∧ n = nuW V j 2 ∧ ux = [.chain j 1 3])) (fun (j,_,_) => V.length - j) (0,.nils,[]) (kle rfl) rfl (by refine ⟨rfl,rfl,rfl,rfl,rfl,rfl,2,rfl,?_,?_⟩ <;> repeat' (first|exact trivial|exact rfl|exact wkr rfl|exact wko rfl|exact Nat.zero_le _|exact qa6 _ (by decide)|exact qa7 _ (by decide)|exact qba _ _ (by decide)|exact kle rfl|exact bdq|exact mxI rfl|exact mxS rfl|apply And.intro)) ⟨Nat.zero_le _,.inl ⟨rfl,rfl,rfl⟩⟩ ?_
   rintro ⟨j,nn,ux⟩ ⟨hj,hn⟩ K2 hK2
   have hj:j ≤ V.length :=hj
   have lVj :=qav (zl (V.take j))
   refine Or.elim hn (fun hn => ?_) fun hn => ?_
   ·obtain ⟨rfl,rfl,rfl⟩ :=hn
    obtain rfl:K2 = 2 :=hK2
    conv => whnf
    by_cases hj3:0 < V.length
    ·have hj4:0 + 1 < (spl 32 (gB (spl 10 s) (i + 1))).length :=by omega
     have hj1:IntKind.i64.wrap (Int.ofNat (0 + 1) + 1) = Int.ofNat (0 + 1 + 1) :=qaz (m :=0 + 1 + 1) (by omega)
     have gI:nth (stA (spl 32 (gB (spl 10 s) (i + 1)))) ((0 + 1) * 1) = some (.str (dec (gn V 0))) :=by rw [qa9 hj4,(hV9 0 hj3).2]
     have pN :=qdz (hV9 0 hj3).1
     have nn:decide (Int.ofNat (gn V 0) < 0) = false :=decide_eq_false (Int.not_lt.2 (Int.natCast_nonneg _))
     have e2 :=nu_1 V 2 hj3
     repeat ((first|refine qak (nthP gI) ?_|refine qag (qae hj4) ?_|refine qaf (qae hj4) ?_|refine pkT (qae hj4) ?_|refine qaa (qae hj4) ?_|refine qal (qae hj4) ?_|refine qam (qae hj4) ?_|refine pkF (qae hj4) ?_|refine qab (qae hj4) ?_|refine qag (qaj hj4) ?_|refine qaf (qaj hj4) ?_|refine pkT (qaj hj4) ?_|refine qaa (qaj hj4) ?_|refine qal nn ?_|refine qam nn ?_|refine pkF nn ?_|refine qab nn ?_|refine qac hC (pN) ?_|refine qad hS (by kernel_rfl) ?_);conv => whnf)
     exact ⟨(1,nuW V 1 2,[.chain 1 1 3]),⟨hj3,.inr ⟨Nat.zero_lt_one,rfl,rfl⟩⟩,by show V.length - 1 < V.length - 0;omega,kle rfl,(by refine ⟨rfl,rfl,rfl,rfl,rfl,rfl,3,rfl,?_,?_⟩ <;> repeat' (first|exact trivial|exact rfl|exact wkr rfl|exact wko rfl|exact Nat.zero_le _|exact ⟨_,rfl,WkV.int hj1⟩|exact ⟨_,rfl,WkV.eq e2⟩|exact qa6 _ (by decide)|exact qa7 _ (by decide)|exact qba _ _ (by decide)|exact kle rfl|exact bdq|exact mxI rfl|exact mxS rfl|apply And.intro))⟩
    ·have hjE:V.length = 0 :=by omega
     by_cases hj4:0 + 1 < (spl 32 (gB (spl 10 s) (i + 1))).length
     ·rcases hE with ⟨hg1,_⟩ | ⟨_,hr,pB⟩
      ·omega
      rw [hjE] at pB
      have gI:nth (stA (spl 32 (gB (spl 10 s) (i + 1)))) ((0 + 1) * 1) = some (.str (gB (spl 32 (gB (spl 10 s) (i + 1))) (0 + 1))) :=qa9 hj4
      repeat ((first|refine qak (nthP gI) ?_|refine qag (qae hj4) ?_|refine qaf (qae hj4) ?_|refine pkT (qae hj4) ?_|refine qaa (qae hj4) ?_|refine qal (qae hj4) ?_|refine qam (qae hj4) ?_|refine pkF (qae hj4) ?_|refine qab (qae hj4) ?_|refine qag (qaj hj4) ?_|refine qaf (qaj hj4) ?_|refine pkT (qaj hj4) ?_|refine qaa (qaj hj4) ?_|refine qac hC (pB) ?_|refine qad hS (by kernel_rfl) ?_);conv => whnf)
      rw [hr]
      exact ⟨_,rfl,Wk.refl _⟩
     ·refine qab (qbe hj4) ?_
      conv => whnf
      refine .inl ?_
      conv => whnf
      have eE:V.length = 0 :=by omega
      rcases hE with ⟨hg1,hg2,hg3⟩ | ⟨hg1,_⟩
      rotate_left
      ·omega
      have hi5:i + 1 ≤ VV.length :=hg2
      by_cases t0:gB (spl 32 (gB (spl 10 s) (i + 1))) 0 = qen
      ·have q0:(gB (spl 32 (gB (spl 10 s) (i + 1))) 0 == [108,105,110,107]) = true :=beq_iff_eq.2 t0
       have q2:(gB (spl 32 (gB (spl 10 s) (i + 1))) 0 == [104,97,110,100]) = false :=beq_eq_false_iff_ne.2 (by rw [t0];decide)
       have nH:¬ isHd s VV i :=fun z => absurd (t0.symm.trans z.1) (by decide)
       have eH:hdF s VV (i + 1) = H :=by rw [hdF,if_neg nH,← eM]
       have nL:¬ isLk s VV i :=fun z => by have :=z.2;rw [← hg3] at this;omega
       have eL:lkF s VV (i + 1) = N :=by rw [lkF,if_neg nL,← eN]
       repeat ((first|refine qak (nthP g0) ?_|refine qag ir ?_|refine qaf ir ?_|refine pkT ir ?_|refine qaa ir ?_|refine qag q0 ?_|refine qaf q0 ?_|refine pkT q0 ?_|refine qaa q0 ?_|refine qag (qaq q0) ?_|refine qaf (qaq q0) ?_|refine pkT (qaq q0) ?_|refine qaa (qaq q0) ?_|refine qal q2 ?_|refine qam q2 ?_|refine pkF q2 ?_|refine qab q2 ?_|refine qal (qao q2) ?_|refine qam (qao q2) ?_|refine pkF (qao q2) ?_|refine qab (qao q2) ?_|refine qad hS (by kernel_rfl) ?_);conv => whnf)
       exact ⟨(i + 1,.nils,.nils,[]),⟨hi5,by show St (lkF s VV (i + 1)) (hdF s VV (i + 1)) _ _ _;rw [eL,eH];exact .inl ⟨sN,sH,rfl,rfl,rfl⟩⟩,by show VV.length + 1 - (i + 1) < VV.length + 1 - i;omega,Nat.le_refl _,(by refine ⟨rfl,rfl,rfl,rfl,rfl,rfl,2,rfl,?_,?_⟩ <;> repeat' (first|exact trivial|exact rfl|exact wkr rfl|exact wko rfl|exact Nat.zero_le _|exact ⟨_,rfl,WkV.int hi1⟩|exact qa6 _ (by decide)|exact qa7 _ (by decide)|exact qba _ _ (by decide)|exact kle rfl|exact bdq|exact mxI rfl|exact mxS rfl|apply And.intro))⟩
      ·have q0:(gB (spl 32 (gB (spl 10 s) (i + 1))) 0 == [108,105,110,107]) = false :=beq_eq_false_iff_ne.2 t0
       have nL:¬ isLk s VV i :=fun z => t0 z.1
       have eL:lkF s VV (i + 1) = N :=by rw [lkF,if_neg nL,← eN]
       by_cases t1:gB (spl 32 (gB (spl 10 s) (i + 1))) 0 = qfb
       ·have q2:(gB (spl 32 (gB (spl 10 s) (i + 1))) 0 == [104,97,110,100]) = true :=beq_iff_eq.2 t1
        have nH:¬ isHd s VV i :=fun z => by have :=z.2;rw [← hg3] at this;omega
        have eH:hdF s VV (i + 1) = H :=by rw [hdF,if_neg nH,← eM]
        repeat ((first|refine qak (nthP g0) ?_|refine qag ir ?_|refine qaf ir ?_|refine pkT ir ?_|refine qaa ir ?_|refine qal q0 ?_|refine qam q0 ?_|refine pkF q0 ?_|refine qab q0 ?_|refine qal (qao q0) ?_|refine qam (qao q0) ?_|refine pkF (qao q0) ?_|refine qab (qao q0) ?_|refine qag q2 ?_|refine qaf q2 ?_|refine pkT q2 ?_|refine qaa q2 ?_|refine qag (qaq q2) ?_|refine qaf (qaq q2) ?_|refine pkT (qaq q2) ?_|refine qaa (qaq q2) ?_|refine qad hS (by kernel_rfl) ?_);conv => whnf)
        exact ⟨(i + 1,.nils,.nils,[]),⟨hi5,by show St (lkF s VV (i + 1)) (hdF s VV (i + 1)) _ _ _;rw [eL,eH];exact .inl ⟨sN,sH,rfl,rfl,rfl⟩⟩,by show VV.length + 1 - (i + 1) < VV.length + 1 - i;omega,Nat.le_refl _,(by refine ⟨rfl,rfl,rfl,rfl,rfl,rfl,2,rfl,?_,?_⟩ <;> repeat' (first|exact trivial|exact rfl|exact wkr rfl|exact wko rfl|exact Nat.zero_le _|exact ⟨_,rfl,WkV.int hi1⟩|exact qa6 _ (by decide)|exact qa7 _ (by decide)|exact qba _ _ (by decide)|exact kle rfl|exact bdq|exact mxI rfl|exact mxS rfl|apply And.intro))⟩
       ·have q2:(gB (spl 32 (gB (spl 10 s) (i + 1))) 0 == [104,97,110,100]) = false :=beq_eq_false_iff_ne.2 t1
        have nH:¬ isHd s VV i :=fun z => t1 z.1
        have eH:hdF s VV (i + 1) = H :=by rw [hdF,if_neg nH,← eM]
        repeat ((first|refine qak (nthP g0) ?_|refine qag ir ?_|refine qaf ir ?_|refine pkT ir ?_|refine qaa ir ?_|refine qal q0 ?_|refine qam q0 ?_|refine pkF q0 ?_|refine qab q0 ?_|refine qal (qao q0) ?_|refine qam (qao q0) ?_|refine pkF (qao q0) ?_|refine qab (qao q0) ?_|refine qal q2 ?_|refine qam q2 ?_|refine pkF q2 ?_|refine qab q2 ?_|refine qal (qao q2) ?_|refine qam (qao q2) ?_|refine pkF (qao q2) ?_|refine qab (qao q2) ?_|refine qad hS (by kernel_rfl) ?_);conv => whnf)
        exact ⟨(i + 1,.nils,.nils,[]),⟨hi5,by show St (lkF s VV (i + 1)) (hdF s VV (i + 1)) _ _ _;rw [eL,eH];exact .inl ⟨sN,sH,rfl,rfl,rfl⟩⟩,by show VV.length + 1 - (i + 1) < VV.length + 1 - i;omega,Nat.le_refl _,(by refine ⟨rfl,rfl,rfl,rfl,rfl,rfl,2,rfl,?_,?_⟩ <;> repeat' (first|exact trivial|exact rfl|exact wkr rfl|exact wko rfl|exact Nat.zero_le _|exact ⟨_,rfl,WkV.int hi1⟩|exact qa6 _ (by decide)|exact qa7 _ (by decide)|exact qba _ _ (by decide)|exact kle rfl|exact bdq|exact mxI rfl|exact mxS rfl|apply And.intro))⟩
   ·obtain ⟨hj2,rfl,rfl⟩ :=hn
    obtain rfl:K2 = 3 :=hK2
    conv => whnf
    by_cases hj3:j < V.length
    ·have hj4:j + 1 < (spl 32 (gB (spl 10 s) (i + 1))).length :=by omega
     have hj1:IntKind.i64.wrap (Int.ofNat (j + 1) + 1) = Int.ofNat (j + 1 + 1) :=qaz (m :=j + 1 + 1) (by omega)
     have gI:nth (stA (spl 32 (gB (spl 10 s) (i + 1)))) ((j + 1) * 1) = some (.str (dec (gn V j))) :=by rw [qa9 hj4,(hV9 j hj3).2]
     have pN :=qdz (hV9 j hj3).1
     have nn:decide (Int.ofNat (gn V j) < 0) = false :=decide_eq_false (Int.not_lt.2 (Int.natCast_nonneg _))
     have e2 :=nu_n V 2 hj3
     have d1:decide ((j + (0 + 1)) * 8 ≤ 140737488355328) = true :=decide_eq_true (by omega)
     have d2:decide (j + (0 + 1) ≤ 9223372036854775807) = true :=decide_eq_true (by omega)
     have d4:decide (j = j) = true :=decide_eq_true rfl
     have d5 :=qfz V hj
     repeat ((first|refine qak (nthP gI) ?_|refine qag (qae hj4) ?_|refine qaf (qae hj4) ?_|refine pkT (qae hj4) ?_|refine qaa (qae hj4) ?_|refine qal (qae hj4) ?_|refine qam (qae hj4) ?_|refine pkF (qae hj4) ?_|refine qab (qae hj4) ?_|refine qag (qaj hj4) ?_|refine qaf (qaj hj4) ?_|refine pkT (qaj hj4) ?_|refine qaa (qaj hj4) ?_|refine qal nn ?_|refine qam nn ?_|refine pkF nn ?_|refine qab nn ?_|refine qag d1 ?_|refine qaf d1 ?_|refine pkT d1 ?_|refine qaa d1 ?_|refine qag d2 ?_|refine qaf d2 ?_|refine pkT d2 ?_|refine qaa d2 ?_|refine qag d4 ?_|refine qaf d4 ?_|refine pkT d4 ?_|refine qaa d4 ?_|refine qag d5 ?_|refine qaf d5 ?_|refine pkT d5 ?_|refine qaa d5 ?_|refine qal d5 ?_|refine qam d5 ?_|refine pkF d5 ?_|refine qab d5 ?_|refine qac hC (pN) ?_|refine qad hS (by kernel_rfl) ?_);conv => whnf)
     exact ⟨(j + 1,nuW V (j + 1) 2,[.chain (j + 1) 1 3]),⟨hj3,.inr ⟨Nat.succ_pos _,rfl,rfl⟩⟩,by show V.length - (j + 1) < V.length - j;omega,kle rfl,(by refine ⟨rfl,rfl,rfl,rfl,rfl,rfl,3,rfl,?_,?_⟩ <;> repeat' (first|exact trivial|exact rfl|exact wkr rfl|exact wko rfl|exact Nat.zero_le _|exact ⟨_,rfl,WkV.int hj1⟩|exact ⟨_,rfl,WkV.eq e2⟩|exact qa6 _ (by decide)|exact qa7 _ (by decide)|exact qba _ _ (by decide)|exact kle rfl|exact bdq|exact mxI rfl|exact mxS rfl|apply And.intro))⟩
    ·have hjE:V.length = j :=by omega
     by_cases hj4:j + 1 < (spl 32 (gB (spl 10 s) (i + 1))).length
     ·rcases hE with ⟨hg1,_⟩ | ⟨_,hr,pB⟩
      ·omega
      rw [hjE] at pB
      have gI:nth (stA (spl 32 (gB (spl 10 s) (i + 1)))) ((j + 1) * 1) = some (.str (gB (spl 32 (gB (spl 10 s) (i + 1))) (j + 1))) :=qa9 hj4
      repeat ((first|refine qak (nthP gI) ?_|refine qag (qae hj4) ?_|refine qaf (qae hj4) ?_|refine pkT (qae hj4) ?_|refine qaa (qae hj4) ?_|refine qal (qae hj4) ?_|refine qam (qae hj4) ?_|refine pkF (qae hj4) ?_|refine qab (qae hj4) ?_|refine qag (qaj hj4) ?_|refine qaf (qaj hj4) ?_|refine pkT (qaj hj4) ?_|refine qaa (qaj hj4) ?_|refine qac hC (pB) ?_|refine qad hS (by kernel_rfl) ?_);conv => whnf)
      rw [hr]
      exact ⟨_,rfl,Wk.refl _⟩
     ·refine qab (qbe hj4) ?_
      conv => whnf
      refine .inl ?_
      conv => whnf
      have eE:V.length = j :=by omega
      rcases hE with ⟨hg1,hg2,hg3⟩ | ⟨hg1,_⟩
      rotate_left
      ·omega
      have hi5:i + 1 ≤ VV.length :=hg2
      by_cases t0:gB (spl 32 (gB (spl 10 s) (i + 1))) 0 = qen
      ·have q0:(gB (spl 32 (gB (spl 10 s) (i + 1))) 0 == [108,105,110,107]) = true :=beq_iff_eq.2 t0
       have q2:(gB (spl 32 (gB (spl 10 s) (i + 1))) 0 == [104,97,110,100]) = false :=beq_eq_false_iff_ne.2 (by rw [t0];decide)
       have nH:¬ isHd s VV i :=fun z => absurd (t0.symm.trans z.1) (by decide)
       have eH:hdF s VV (i + 1) = H :=by rw [hdF,if_neg nH,← eM]
       by_cases l3:j = 3
       ·subst l3
        obtain ⟨x,y,z,hV⟩ : ∃ x y z,V = [x,y,z] :=by
         rcases V with _ | ⟨x,_ | ⟨y,_ | ⟨z,_ | ⟨u,V⟩⟩⟩⟩
         ·cases eE
         ·cases eE
         ·cases eE
         ·exact ⟨x,y,z,rfl⟩
         ·simp at eE
        have nL:isLk s VV i :=⟨t0,by rw [← hg3];exact eE⟩
        have eL:lkF s VV (i + 1) = N ++ [(x,y,z)] :=by rw [lkF,if_pos nL,← eN,← hg3,hV];rfl
        subst hV
        have e2 :=lk_1 (x,y,z) 17
        repeat ((first|refine qak (nthP g0) ?_|refine qag ir ?_|refine qaf ir ?_|refine pkT ir ?_|refine qaa ir ?_|refine qag q0 ?_|refine qaf q0 ?_|refine pkT q0 ?_|refine qaa q0 ?_|refine qag (qaq q0) ?_|refine qaf (qaq q0) ?_|refine pkT (qaq q0) ?_|refine qaa (qaq q0) ?_|refine qal q2 ?_|refine qam q2 ?_|refine pkF q2 ?_|refine qab q2 ?_|refine qal (qao q2) ?_|refine qam (qao q2) ?_|refine pkF (qao q2) ?_|refine qab (qao q2) ?_|refine qad hS (by kernel_rfl) ?_);conv => whnf)
        exact ⟨(i + 1,lkW [(x,y,z)] 17,.nils,bL 1),⟨hi5,by show St (lkF s VV (i + 1)) (hdF s VV (i + 1)) _ _ _;rw [eL,eH];rw [sN,List.nil_append];exact .inr (.inl ⟨by simp,sH,rfl,rfl,rfl⟩)⟩,by show VV.length + 1 - (i + 1) < VV.length + 1 - i;omega,kle rfl,(by refine ⟨rfl,rfl,rfl,rfl,rfl,rfl,20,rfl,?_,?_⟩ <;> repeat' (first|exact trivial|exact rfl|exact wkr rfl|exact wko rfl|exact Nat.zero_le _|exact ⟨_,rfl,WkV.int hi1⟩|exact qcy e2|exact qa6 _ (by decide)|exact qa7 _ (by decide)|exact qba _ _ (by decide)|exact kle rfl|exact bdq|exact mxI rfl|exact mxS rfl|apply And.intro))⟩
       ·have nL:¬ isLk s VV i :=fun z => l3 (by have :=z.2;rw [← hg3] at this;omega)
        have eL:lkF s VV (i + 1) = N :=by rw [lkF,if_neg nL,← eN]
        have q1:((j:Int) == 3) = false :=beq_eq_false_iff_ne.2 fun z => l3 (by omega)
        repeat ((first|refine qak (nthP g0) ?_|refine qag ir ?_|refine qaf ir ?_|refine pkT ir ?_|refine qaa ir ?_|refine qag q0 ?_|refine qaf q0 ?_|refine pkT q0 ?_|refine qaa q0 ?_|refine qag (qaq q0) ?_|refine qaf (qaq q0) ?_|refine pkT (qaq q0) ?_|refine qaa (qaq q0) ?_|refine qal q1 ?_|refine qam q1 ?_|refine pkF q1 ?_|refine qab q1 ?_|refine qal (qao q1) ?_|refine qam (qao q1) ?_|refine pkF (qao q1) ?_|refine qab (qao q1) ?_|refine qal q2 ?_|refine qam q2 ?_|refine pkF q2 ?_|refine qab q2 ?_|refine qal (qao q2) ?_|refine qam (qao q2) ?_|refine pkF (qao q2) ?_|refine qab (qao q2) ?_|refine qad hS (by kernel_rfl) ?_);conv => whnf)
        exact ⟨(i + 1,.nils,.nils,[]),⟨hi5,by show St (lkF s VV (i + 1)) (hdF s VV (i + 1)) _ _ _;rw [eL,eH];exact .inl ⟨sN,sH,rfl,rfl,rfl⟩⟩,by show VV.length + 1 - (i + 1) < VV.length + 1 - i;omega,Nat.le_refl _,(by refine ⟨rfl,rfl,rfl,rfl,rfl,rfl,2,rfl,?_,?_⟩ <;> repeat' (first|exact trivial|exact rfl|exact wkr rfl|exact wko rfl|exact Nat.zero_le _|exact ⟨_,rfl,WkV.int hi1⟩|exact qa6 _ (by decide)|exact qa7 _ (by decide)|exact qba _ _ (by decide)|exact kle rfl|exact bdq|exact mxI rfl|exact mxS rfl|apply And.intro))⟩
      ·have q0:(gB (spl 32 (gB (spl 10 s) (i + 1))) 0 == [108,105,110,107]) = false :=beq_eq_false_iff_ne.2 t0
       have nL:¬ isLk s VV i :=fun z => t0 z.1
       have eL:lkF s VV (i + 1) = N :=by rw [lkF,if_neg nL,← eN]
       by_cases t1:gB (spl 32 (gB (spl 10 s) (i + 1))) 0 = qfb
       ·have q2:(gB (spl 32 (gB (spl 10 s) (i + 1))) 0 == [104,97,110,100]) = true :=beq_iff_eq.2 t1
        by_cases l1:j = 1
        ·subst l1
         obtain ⟨x,hV⟩ : ∃ x,V = [x] :=by
          rcases V with _ | ⟨x,_ | ⟨y,V⟩⟩
          ·cases eE
          ·exact ⟨x,rfl⟩
          ·simp at eE
         have nH:isHd s VV i :=⟨t1,by rw [← hg3];exact eE⟩
         have eH:hdF s VV (i + 1) = H ++ [x] :=by rw [hdF,if_pos nH,← eM,← hg3,hV];rfl
         subst hV
         have e2 :=hd_1 x 9
         repeat ((first|refine qak (nthP g0) ?_|refine qag ir ?_|refine qaf ir ?_|refine pkT ir ?_|refine qaa ir ?_|refine qal q0 ?_|refine qam q0 ?_|refine pkF q0 ?_|refine qab q0 ?_|refine qal (qao q0) ?_|refine qam (qao q0) ?_|refine pkF (qao q0) ?_|refine qab (qao q0) ?_|refine qag q2 ?_|refine qaf q2 ?_|refine pkT q2 ?_|refine qaa q2 ?_|refine qag (qaq q2) ?_|refine qaf (qaq q2) ?_|refine pkT (qaq q2) ?_|refine qaa (qaq q2) ?_|refine qad hS (by kernel_rfl) ?_);conv => whnf)
         exact ⟨(i + 1,.nils,hdW [x] 9,bH 1),⟨hi5,by show St (lkF s VV (i + 1)) (hdF s VV (i + 1)) _ _ _;rw [eL,eH];rw [sH,List.nil_append];exact .inr (.inr (.inl ⟨sN,by simp,rfl,rfl,rfl⟩))⟩,by show VV.length + 1 - (i + 1) < VV.length + 1 - i;omega,kle rfl,(by refine ⟨rfl,rfl,rfl,rfl,rfl,rfl,12,rfl,?_,?_⟩ <;> repeat' (first|exact trivial|exact rfl|exact wkr rfl|exact wko rfl|exact Nat.zero_le _|exact ⟨_,rfl,WkV.int hi1⟩|exact qcd e2|exact qa6 _ (by decide)|exact qa7 _ (by decide)|exact qba _ _ (by decide)|exact kle rfl|exact bdq|exact mxI rfl|exact mxS rfl|apply And.intro))⟩
        ·have nH:¬ isHd s VV i :=fun z => l1 (by have :=z.2;rw [← hg3] at this;omega)
         have eH:hdF s VV (i + 1) = H :=by rw [hdF,if_neg nH,← eM]
         have q1:((j:Int) == 1) = false :=beq_eq_false_iff_ne.2 fun z => l1 (by omega)
         repeat ((first|refine qak (nthP g0) ?_|refine qag ir ?_|refine qaf ir ?_|refine pkT ir ?_|refine qaa ir ?_|refine qal q0 ?_|refine qam q0 ?_|refine pkF q0 ?_|refine qab q0 ?_|refine qal (qao q0) ?_|refine qam (qao q0) ?_|refine pkF (qao q0) ?_|refine qab (qao q0) ?_|refine qag q2 ?_|refine qaf q2 ?_|refine pkT q2 ?_|refine qaa q2 ?_|refine qag (qaq q2) ?_|refine qaf (qaq q2) ?_|refine pkT (qaq q2) ?_|refine qaa (qaq q2) ?_|refine qal q1 ?_|refine qam q1 ?_|refine pkF q1 ?_|refine qab q1 ?_|refine qal (qao q1) ?_|refine qam (qao q1) ?_|refine pkF (qao q1) ?_|refine qab (qao q1) ?_|refine qad hS (by kernel_rfl) ?_);conv => whnf)
         exact ⟨(i + 1,.nils,.nils,[]),⟨hi5,by show St (lkF s VV (i + 1)) (hdF s VV (i + 1)) _ _ _;rw [eL,eH];exact .inl ⟨sN,sH,rfl,rfl,rfl⟩⟩,by show VV.length + 1 - (i + 1) < VV.length + 1 - i;omega,Nat.le_refl _,(by refine ⟨rfl,rfl,rfl,rfl,rfl,rfl,2,rfl,?_,?_⟩ <;> repeat' (first|exact trivial|exact rfl|exact wkr rfl|exact wko rfl|exact Nat.zero_le _|exact ⟨_,rfl,WkV.int hi1⟩|exact qa6 _ (by decide)|exact qa7 _ (by decide)|exact qba _ _ (by decide)|exact kle rfl|exact bdq|exact mxI rfl|exact mxS rfl|apply And.intro))⟩
       ·have q2:(gB (spl 32 (gB (spl 10 s) (i + 1))) 0 == [104,97,110,100]) = false :=beq_eq_false_iff_ne.2 t1
        have nH:¬ isHd s VV i :=fun z => t1 z.1
        have eH:hdF s VV (i + 1) = H :=by rw [hdF,if_neg nH,← eM]
        repeat ((first|refine qak (nthP g0) ?_|refine qag ir ?_|refine qaf ir ?_|refine pkT ir ?_|refine qaa ir ?_|refine qal q0 ?_|refine qam q0 ?_|refine pkF q0 ?_|refine qab q0 ?_|refine qal (qao q0) ?_|refine qam (qao q0) ?_|refine pkF (qao q0) ?_|refine qab (qao q0) ?_|refine qal q2 ?_|refine qam q2 ?_|refine pkF q2 ?_|refine qab q2 ?_|refine qal (qao q2) ?_|refine qam (qao q2) ?_|refine pkF (qao q2) ?_|refine qab (qao q2) ?_|refine qad hS (by kernel_rfl) ?_);conv => whnf)
        exact ⟨(i + 1,.nils,.nils,[]),⟨hi5,by show St (lkF s VV (i + 1)) (hdF s VV (i + 1)) _ _ _;rw [eL,eH];exact .inl ⟨sN,sH,rfl,rfl,rfl⟩⟩,by show VV.length + 1 - (i + 1) < VV.length + 1 - i;omega,Nat.le_refl _,(by refine ⟨rfl,rfl,rfl,rfl,rfl,rfl,2,rfl,?_,?_⟩ <;> repeat' (first|exact trivial|exact rfl|exact wkr rfl|exact wko rfl|exact Nat.zero_le _|exact ⟨_,rfl,WkV.int hi1⟩|exact qa6 _ (by decide)|exact qa7 _ (by decide)|exact qba _ _ (by decide)|exact kle rfl|exact bdq|exact mxI rfl|exact mxS rfl|apply And.intro))⟩
  ·have c1:decide (Int.ofNat (i + 1) < IntKind.i64.wrap (((spl 10 s).length:Int) - 2)) = false :=decide_eq_false (by rw [wR];simp only [Int.ofNat_eq_natCast];omega)
   have st:St N H .nils .nils ([]) :=.inl ⟨sN,sH,rfl,rfl,rfl⟩
   have pP :=qeq hok (by omega) (by omega) st
   rcases hend with ⟨hl9,hc⟩ | ⟨hl9,_⟩
   rotate_left
   ·omega
   have hiE:i = VV.length :=by omega
   rw [hiE] at eN eM
   rw [← eN,← eM] at hc
   refine qab (c1) ?_
   conv => whnf
   refine .inl ?_
   conv => whnf
   rcases hc with ⟨hc,hr⟩ | ⟨hc,hr⟩
   ·have te:(prtB N H != s) = false :=by rw [bne,beq_iff_eq.2 hc];rfl
    repeat ((first|refine qal te ?_|refine qam te ?_|refine pkF te ?_|refine qab te ?_|refine qac hC (pP) ?_|refine qad hS (by kernel_rfl) ?_);conv => whnf)
    rw [hr]
    exact ⟨_,rfl,qpi st⟩
   ·have te:(prtB N H != s) = true :=by rw [bne,beq_eq_false_iff_ne.2 hc];rfl
    repeat ((first|refine qag te ?_|refine qaf te ?_|refine pkT te ?_|refine qaa te ?_|refine qac hC (pP) ?_|refine qad hS (by kernel_rfl) ?_);conv => whnf)
    rw [hr]
    exact ⟨_,rfl,Wk.refl _⟩
 ·obtain ⟨sN,sH,rfl,rfl,rfl⟩ :=hst
  obtain rfl:K = 20 :=hK
  conv => whnf
  by_cases him:i < (spl 10 s).length - 3
  ·have c1:decide (Int.ofNat (i + 1) < IntKind.i64.wrap (((spl 10 s).length:Int) - 2)) = true :=decide_eq_true (by rw [wR];simp only [Int.ofNat_eq_natCast];omega)
   have hi1:IntKind.i64.wrap (Int.ofNat (i + 1) + 1) = Int.ofNat (i + 1 + 1) :=qaz (m :=i + 1 + 1) (by omega)
   have hil:i + 1 < (spl 10 s).length :=by omega
   have gR:nth (stA (spl 10 s)) ((i + 1) * 1) = some (.str (gB (spl 10 s) (i + 1))) :=qa9 hil
   have hgl :=qk6 10 s (i + 1)
   have pW :=qcw (gB (spl 10 s) (i + 1)) 32 (by omega)
   have lW :=qa1 (spl 32 (gB (spl 10 s) (i + 1)))
   have hwl :=qfd 32 (gB (spl 10 s) (i + 1))
   have hw0:0 < (spl 32 (gB (spl 10 s) (i + 1))).length :=by rw [qc9];omega
   have ir:inR 0 (spl 32 (gB (spl 10 s) (i + 1))).length = true :=qaj (i :=0) hw0
   have g0:nth (stA (spl 32 (gB (spl 10 s) (i + 1)))) (0:Int).toNat = some (.str (gB (spl 32 (gB (spl 10 s) (i + 1))) 0)) :=qa9 (i :=0) hw0
   obtain ⟨V,hV9,hE⟩ :=qku hrow hend him hi
   have lV :=qav (zl V)
   repeat ((first|refine qak (nthP gR) ?_|refine qag c1 ?_|refine qaf c1 ?_|refine pkT c1 ?_|refine qaa c1 ?_|refine qag (qaj hil) ?_|refine qaf (qaj hil) ?_|refine pkT (qaj hil) ?_|refine qaa (qaj hil) ?_|refine qac hC (pW) ?_|refine qad hS (by kernel_rfl) ?_);conv => whnf)
   refine qax hE0 hS (A :=Nat × AV × List AObj) [0,2,3,4,5,6,7] (fun (j,n,_) => [(8,n),(9,nv (j + 1))]) (fun _ => []) (fun a => a.2.2) (fun (j,n,ux) => j ≤ V.length ∧ (j = 0 ∧ n = .nils ∧ ux = [] ∨ 0 < j ∧ n = nuW V j 20 ∧ ux = [.chain j 1 3])) (fun (j,_,_) => V.length - j) (0,.nils,[]) (kle rfl) rfl (by refine ⟨rfl,rfl,rfl,rfl,rfl,rfl,20,rfl,?_,?_⟩ <;> repeat' (first|exact trivial|exact rfl|exact wkr rfl|exact wko rfl|exact Nat.zero_le _|exact qa6 _ (by decide)|exact qa7 _ (by decide)|exact qba _ _ (by decide)|exact kle rfl|exact bdq|exact mxI rfl|exact mxS rfl|apply And.intro)) ⟨Nat.zero_le _,.inl ⟨rfl,rfl,rfl⟩⟩ ?_
   rintro ⟨j,nn,ux⟩ ⟨hj,hn⟩ K2 hK2
   have hj:j ≤ V.length :=hj
   have lVj :=qav (zl (V.take j))
   refine Or.elim hn (fun hn => ?_) fun hn => ?_
   ·obtain ⟨rfl,rfl,rfl⟩ :=hn
    obtain rfl:K2 = 20 :=hK2
    conv => whnf
    by_cases hj3:0 < V.length
    ·have hj4:0 + 1 < (spl 32 (gB (spl 10 s) (i + 1))).length :=by omega
     have hj1:IntKind.i64.wrap (Int.ofNat (0 + 1) + 1) = Int.ofNat (0 + 1 + 1) :=qaz (m :=0 + 1 + 1) (by omega)
     have gI:nth (stA (spl 32 (gB (spl 10 s) (i + 1)))) ((0 + 1) * 1) = some (.str (dec (gn V 0))) :=by rw [qa9 hj4,(hV9 0 hj3).2]
     have pN :=qdz (hV9 0 hj3).1
     have nn:decide (Int.ofNat (gn V 0) < 0) = false :=decide_eq_false (Int.not_lt.2 (Int.natCast_nonneg _))
     have e2 :=nu_1 V 20 hj3
     repeat ((first|refine qak (nthP gI) ?_|refine qag (qae hj4) ?_|refine qaf (qae hj4) ?_|refine pkT (qae hj4) ?_|refine qaa (qae hj4) ?_|refine qal (qae hj4) ?_|refine qam (qae hj4) ?_|refine pkF (qae hj4) ?_|refine qab (qae hj4) ?_|refine qag (qaj hj4) ?_|refine qaf (qaj hj4) ?_|refine pkT (qaj hj4) ?_|refine qaa (qaj hj4) ?_|refine qal nn ?_|refine qam nn ?_|refine pkF nn ?_|refine qab nn ?_|refine qac hC (pN) ?_|refine qad hS (by kernel_rfl) ?_);conv => whnf)
     exact ⟨(1,nuW V 1 20,[.chain 1 1 3]),⟨hj3,.inr ⟨Nat.zero_lt_one,rfl,rfl⟩⟩,by show V.length - 1 < V.length - 0;omega,kle rfl,(by refine ⟨rfl,rfl,rfl,rfl,rfl,rfl,21,rfl,?_,?_⟩ <;> repeat' (first|exact trivial|exact rfl|exact wkr rfl|exact wko rfl|exact Nat.zero_le _|exact ⟨_,rfl,WkV.int hj1⟩|exact ⟨_,rfl,WkV.eq e2⟩|exact qa6 _ (by decide)|exact qa7 _ (by decide)|exact qba _ _ (by decide)|exact kle rfl|exact bdq|exact mxI rfl|exact mxS rfl|apply And.intro))⟩
    ·have hjE:V.length = 0 :=by omega
     by_cases hj4:0 + 1 < (spl 32 (gB (spl 10 s) (i + 1))).length
     ·rcases hE with ⟨hg1,_⟩ | ⟨_,hr,pB⟩
      ·omega
      rw [hjE] at pB
      have gI:nth (stA (spl 32 (gB (spl 10 s) (i + 1)))) ((0 + 1) * 1) = some (.str (gB (spl 32 (gB (spl 10 s) (i + 1))) (0 + 1))) :=qa9 hj4
      repeat ((first|refine qak (nthP gI) ?_|refine qag (qae hj4) ?_|refine qaf (qae hj4) ?_|refine pkT (qae hj4) ?_|refine qaa (qae hj4) ?_|refine qal (qae hj4) ?_|refine qam (qae hj4) ?_|refine pkF (qae hj4) ?_|refine qab (qae hj4) ?_|refine qag (qaj hj4) ?_|refine qaf (qaj hj4) ?_|refine pkT (qaj hj4) ?_|refine qaa (qaj hj4) ?_|refine qac hC (pB) ?_|refine qad hS (by kernel_rfl) ?_);conv => whnf)
      rw [hr]
      exact ⟨_,rfl,Wk.refl _⟩
     ·refine qab (qbe hj4) ?_
      conv => whnf
      refine .inl ?_
      conv => whnf
      have eE:V.length = 0 :=by omega
      rcases hE with ⟨hg1,hg2,hg3⟩ | ⟨hg1,_⟩
      rotate_left
      ·omega
      have hi5:i + 1 ≤ VV.length :=hg2
      by_cases t0:gB (spl 32 (gB (spl 10 s) (i + 1))) 0 = qen
      ·have q0:(gB (spl 32 (gB (spl 10 s) (i + 1))) 0 == [108,105,110,107]) = true :=beq_iff_eq.2 t0
       have q2:(gB (spl 32 (gB (spl 10 s) (i + 1))) 0 == [104,97,110,100]) = false :=beq_eq_false_iff_ne.2 (by rw [t0];decide)
       have nH:¬ isHd s VV i :=fun z => absurd (t0.symm.trans z.1) (by decide)
       have eH:hdF s VV (i + 1) = H :=by rw [hdF,if_neg nH,← eM]
       have nL:¬ isLk s VV i :=fun z => by have :=z.2;rw [← hg3] at this;omega
       have eL:lkF s VV (i + 1) = N :=by rw [lkF,if_neg nL,← eN]
       repeat ((first|refine qak (nthP g0) ?_|refine qag ir ?_|refine qaf ir ?_|refine pkT ir ?_|refine qaa ir ?_|refine qag q0 ?_|refine qaf q0 ?_|refine pkT q0 ?_|refine qaa q0 ?_|refine qag (qaq q0) ?_|refine qaf (qaq q0) ?_|refine pkT (qaq q0) ?_|refine qaa (qaq q0) ?_|refine qal q2 ?_|refine qam q2 ?_|refine pkF q2 ?_|refine qab q2 ?_|refine qal (qao q2) ?_|refine qam (qao q2) ?_|refine pkF (qao q2) ?_|refine qab (qao q2) ?_|refine qad hS (by kernel_rfl) ?_);conv => whnf)
       exact ⟨(i + 1,(lkW N 17),.nils,bL N.length),⟨hi5,by show St (lkF s VV (i + 1)) (hdF s VV (i + 1)) _ _ _;rw [eL,eH];exact .inr (.inl ⟨sN,sH,rfl,rfl,rfl⟩)⟩,by show VV.length + 1 - (i + 1) < VV.length + 1 - i;omega,Nat.le_refl _,(by refine ⟨rfl,rfl,rfl,rfl,rfl,rfl,20,rfl,?_,?_⟩ <;> repeat' (first|exact trivial|exact rfl|exact wkr rfl|exact wko rfl|exact Nat.zero_le _|exact ⟨_,rfl,WkV.int hi1⟩|exact qa6 _ (by decide)|exact qa7 _ (by decide)|exact qba _ _ (by decide)|exact kle rfl|exact bdq|exact mxI rfl|exact mxS rfl|apply And.intro))⟩
      ·have q0:(gB (spl 32 (gB (spl 10 s) (i + 1))) 0 == [108,105,110,107]) = false :=beq_eq_false_iff_ne.2 t0
       have nL:¬ isLk s VV i :=fun z => t0 z.1
       have eL:lkF s VV (i + 1) = N :=by rw [lkF,if_neg nL,← eN]
       by_cases t1:gB (spl 32 (gB (spl 10 s) (i + 1))) 0 = qfb
       ·have q2:(gB (spl 32 (gB (spl 10 s) (i + 1))) 0 == [104,97,110,100]) = true :=beq_iff_eq.2 t1
        have nH:¬ isHd s VV i :=fun z => by have :=z.2;rw [← hg3] at this;omega
        have eH:hdF s VV (i + 1) = H :=by rw [hdF,if_neg nH,← eM]
        repeat ((first|refine qak (nthP g0) ?_|refine qag ir ?_|refine qaf ir ?_|refine pkT ir ?_|refine qaa ir ?_|refine qal q0 ?_|refine qam q0 ?_|refine pkF q0 ?_|refine qab q0 ?_|refine qal (qao q0) ?_|refine qam (qao q0) ?_|refine pkF (qao q0) ?_|refine qab (qao q0) ?_|refine qag q2 ?_|refine qaf q2 ?_|refine pkT q2 ?_|refine qaa q2 ?_|refine qag (qaq q2) ?_|refine qaf (qaq q2) ?_|refine pkT (qaq q2) ?_|refine qaa (qaq q2) ?_|refine qad hS (by kernel_rfl) ?_);conv => whnf)
        exact ⟨(i + 1,(lkW N 17),.nils,bL N.length),⟨hi5,by show St (lkF s VV (i + 1)) (hdF s VV (i + 1)) _ _ _;rw [eL,eH];exact .inr (.inl ⟨sN,sH,rfl,rfl,rfl⟩)⟩,by show VV.length + 1 - (i + 1) < VV.length + 1 - i;omega,Nat.le_refl _,(by refine ⟨rfl,rfl,rfl,rfl,rfl,rfl,20,rfl,?_,?_⟩ <;> repeat' (first|exact trivial|exact rfl|exact wkr rfl|exact wko rfl|exact Nat.zero_le _|exact ⟨_,rfl,WkV.int hi1⟩|exact qa6 _ (by decide)|exact qa7 _ (by decide)|exact qba _ _ (by decide)|exact kle rfl|exact bdq|exact mxI rfl|exact mxS rfl|apply And.intro))⟩
       ·have q2:(gB (spl 32 (gB (spl 10 s) (i + 1))) 0 == [104,97,110,100]) = false :=beq_eq_false_iff_ne.2 t1
        have nH:¬ isHd s VV i :=fun z => t1 z.1
        have eH:hdF s VV (i + 1) = H :=by rw [hdF,if_neg nH,← eM]
        repeat ((first|refine qak (nthP g0) ?_|refine qag ir ?_|refine qaf ir ?_|refine pkT ir ?_|refine qaa ir ?_|refine qal q0 ?_|refine qam q0 ?_|refine pkF q0 ?_|refine qab q0 ?_|refine qal (qao q0) ?_|refine qam (qao q0) ?_|refine pkF (qao q0) ?_|refine qab (qao q0) ?_|refine qal q2 ?_|refine qam q2 ?_|refine pkF q2 ?_|refine qab q2 ?_|refine qal (qao q2) ?_|refine qam (qao q2) ?_|refine pkF (qao q2) ?_|refine qab (qao q2) ?_|refine qad hS (by kernel_rfl) ?_);conv => whnf)
        exact ⟨(i + 1,(lkW N 17),.nils,bL N.length),⟨hi5,by show St (lkF s VV (i + 1)) (hdF s VV (i + 1)) _ _ _;rw [eL,eH];exact .inr (.inl ⟨sN,sH,rfl,rfl,rfl⟩)⟩,by show VV.length + 1 - (i + 1) < VV.length + 1 - i;omega,Nat.le_refl _,(by refine ⟨rfl,rfl,rfl,rfl,rfl,rfl,20,rfl,?_,?_⟩ <;> repeat' (first|exact trivial|exact rfl|exact wkr rfl|exact wko rfl|exact Nat.zero_le _|exact ⟨_,rfl,WkV.int hi1⟩|exact qa6 _ (by decide)|exact qa7 _ (by decide)|exact qba _ _ (by decide)|exact kle rfl|exact bdq|exact mxI rfl|exact mxS rfl|apply And.intro))⟩
   ·obtain ⟨hj2,rfl,rfl⟩ :=hn
    obtain rfl:K2 = 21 :=hK2
    conv => whnf
    by_cases hj3:j < V.length
    ·have hj4:j + 1 < (spl 32 (gB (spl 10 s) (i + 1))).length :=by omega
     have hj1:IntKind.i64.wrap (Int.ofNat (j + 1) + 1) = Int.ofNat (j + 1 + 1) :=qaz (m :=j + 1 + 1) (by omega)
     have gI:nth (stA (spl 32 (gB (spl 10 s) (i + 1)))) ((j + 1) * 1) = some (.str (dec (gn V j))) :=by rw [qa9 hj4,(hV9 j hj3).2]
     have pN :=qdz (hV9 j hj3).1
     have nn:decide (Int.ofNat (gn V j) < 0) = false :=decide_eq_false (Int.not_lt.2 (Int.natCast_nonneg _))
     have e2 :=nu_n V 20 hj3
     have d1:decide ((j + (0 + 1)) * 8 ≤ 140737488355328) = true :=decide_eq_true (by omega)
     have d2:decide (j + (0 + 1) ≤ 9223372036854775807) = true :=decide_eq_true (by omega)
     have d4:decide (j = j) = true :=decide_eq_true rfl
     have d5 :=qfz V hj
     repeat ((first|refine qak (nthP gI) ?_|refine qag (qae hj4) ?_|refine qaf (qae hj4) ?_|refine pkT (qae hj4) ?_|refine qaa (qae hj4) ?_|refine qal (qae hj4) ?_|refine qam (qae hj4) ?_|refine pkF (qae hj4) ?_|refine qab (qae hj4) ?_|refine qag (qaj hj4) ?_|refine qaf (qaj hj4) ?_|refine pkT (qaj hj4) ?_|refine qaa (qaj hj4) ?_|refine qal nn ?_|refine qam nn ?_|refine pkF nn ?_|refine qab nn ?_|refine qag d1 ?_|refine qaf d1 ?_|refine pkT d1 ?_|refine qaa d1 ?_|refine qag d2 ?_|refine qaf d2 ?_|refine pkT d2 ?_|refine qaa d2 ?_|refine qag d4 ?_|refine qaf d4 ?_|refine pkT d4 ?_|refine qaa d4 ?_|refine qag d5 ?_|refine qaf d5 ?_|refine pkT d5 ?_|refine qaa d5 ?_|refine qal d5 ?_|refine qam d5 ?_|refine pkF d5 ?_|refine qab d5 ?_|refine qac hC (pN) ?_|refine qad hS (by kernel_rfl) ?_);conv => whnf)
     exact ⟨(j + 1,nuW V (j + 1) 20,[.chain (j + 1) 1 3]),⟨hj3,.inr ⟨Nat.succ_pos _,rfl,rfl⟩⟩,by show V.length - (j + 1) < V.length - j;omega,kle rfl,(by refine ⟨rfl,rfl,rfl,rfl,rfl,rfl,21,rfl,?_,?_⟩ <;> repeat' (first|exact trivial|exact rfl|exact wkr rfl|exact wko rfl|exact Nat.zero_le _|exact ⟨_,rfl,WkV.int hj1⟩|exact ⟨_,rfl,WkV.eq e2⟩|exact qa6 _ (by decide)|exact qa7 _ (by decide)|exact qba _ _ (by decide)|exact kle rfl|exact bdq|exact mxI rfl|exact mxS rfl|apply And.intro))⟩
    ·have hjE:V.length = j :=by omega
     by_cases hj4:j + 1 < (spl 32 (gB (spl 10 s) (i + 1))).length
     ·rcases hE with ⟨hg1,_⟩ | ⟨_,hr,pB⟩
      ·omega
      rw [hjE] at pB
      have gI:nth (stA (spl 32 (gB (spl 10 s) (i + 1)))) ((j + 1) * 1) = some (.str (gB (spl 32 (gB (spl 10 s) (i + 1))) (j + 1))) :=qa9 hj4
      repeat ((first|refine qak (nthP gI) ?_|refine qag (qae hj4) ?_|refine qaf (qae hj4) ?_|refine pkT (qae hj4) ?_|refine qaa (qae hj4) ?_|refine qal (qae hj4) ?_|refine qam (qae hj4) ?_|refine pkF (qae hj4) ?_|refine qab (qae hj4) ?_|refine qag (qaj hj4) ?_|refine qaf (qaj hj4) ?_|refine pkT (qaj hj4) ?_|refine qaa (qaj hj4) ?_|refine qac hC (pB) ?_|refine qad hS (by kernel_rfl) ?_);conv => whnf)
      rw [hr]
      exact ⟨_,rfl,Wk.refl _⟩
     ·refine qab (qbe hj4) ?_
      conv => whnf
      refine .inl ?_
      conv => whnf
      have eE:V.length = j :=by omega
      rcases hE with ⟨hg1,hg2,hg3⟩ | ⟨hg1,_⟩
      rotate_left
      ·omega
      have hi5:i + 1 ≤ VV.length :=hg2
      by_cases t0:gB (spl 32 (gB (spl 10 s) (i + 1))) 0 = qen
      ·have q0:(gB (spl 32 (gB (spl 10 s) (i + 1))) 0 == [108,105,110,107]) = true :=beq_iff_eq.2 t0
       have q2:(gB (spl 32 (gB (spl 10 s) (i + 1))) 0 == [104,97,110,100]) = false :=beq_eq_false_iff_ne.2 (by rw [t0];decide)
       have nH:¬ isHd s VV i :=fun z => absurd (t0.symm.trans z.1) (by decide)
       have eH:hdF s VV (i + 1) = H :=by rw [hdF,if_neg nH,← eM]
       by_cases l3:j = 3
       ·subst l3
        obtain ⟨x,y,z,hV⟩ : ∃ x y z,V = [x,y,z] :=by
         rcases V with _ | ⟨x,_ | ⟨y,_ | ⟨z,_ | ⟨u,V⟩⟩⟩⟩
         ·cases eE
         ·cases eE
         ·cases eE
         ·exact ⟨x,y,z,rfl⟩
         ·simp at eE
        have nL:isLk s VV i :=⟨t0,by rw [← hg3];exact eE⟩
        have eL:lkF s VV (i + 1) = N ++ [(x,y,z)] :=by rw [lkF,if_pos nL,← eN,← hg3,hV];rfl
        subst hV
        have e2 :=lk_n N (x,y,z) 17
        have d1:decide ((N.length + (0 + 1)) * 24 ≤ 140737488355328) = true :=decide_eq_true (by omega)
        have d2:decide (N.length + (0 + 1) ≤ 9223372036854775807) = true :=decide_eq_true (by omega)
        have d4:decide (N.length = N.length) = true :=decide_eq_true rfl
        have d5 :=qh2 N
        repeat ((first|refine qak (nthP g0) ?_|refine qag ir ?_|refine qaf ir ?_|refine pkT ir ?_|refine qaa ir ?_|refine qag q0 ?_|refine qaf q0 ?_|refine pkT q0 ?_|refine qaa q0 ?_|refine qag (qaq q0) ?_|refine qaf (qaq q0) ?_|refine pkT (qaq q0) ?_|refine qaa (qaq q0) ?_|refine qal q2 ?_|refine qam q2 ?_|refine pkF q2 ?_|refine qab q2 ?_|refine qal (qao q2) ?_|refine qam (qao q2) ?_|refine pkF (qao q2) ?_|refine qab (qao q2) ?_|refine qag d1 ?_|refine qaf d1 ?_|refine pkT d1 ?_|refine qaa d1 ?_|refine qag d2 ?_|refine qaf d2 ?_|refine pkT d2 ?_|refine qaa d2 ?_|refine qag d4 ?_|refine qaf d4 ?_|refine pkT d4 ?_|refine qaa d4 ?_|refine qag d5 ?_|refine qaf d5 ?_|refine pkT d5 ?_|refine qaa d5 ?_|refine qal d5 ?_|refine qam d5 ?_|refine pkF d5 ?_|refine qab d5 ?_|refine qad hS (by kernel_rfl) ?_);conv => whnf)
        exact ⟨(i + 1,lkW (N ++ [(x,y,z)]) 17,.nils,bL (N.length + 1)),⟨hi5,by show St (lkF s VV (i + 1)) (hdF s VV (i + 1)) _ _ _;rw [eL,eH];exact .inr (.inl ⟨by simp,sH,rfl,rfl,(by rw [List.length_append];rfl)⟩)⟩,by show VV.length + 1 - (i + 1) < VV.length + 1 - i;omega,kle rfl,(by refine ⟨rfl,rfl,rfl,rfl,rfl,rfl,20,rfl,?_,?_⟩ <;> repeat' (first|exact trivial|exact rfl|exact wkr rfl|exact wko rfl|exact Nat.zero_le _|exact ⟨_,rfl,WkV.int hi1⟩|exact qcy e2|exact qa6 _ (by decide)|exact qa7 _ (by decide)|exact qba _ _ (by decide)|exact kle rfl|exact bdq|exact mxI rfl|exact mxS rfl|apply And.intro))⟩
       ·have nL:¬ isLk s VV i :=fun z => l3 (by have :=z.2;rw [← hg3] at this;omega)
        have eL:lkF s VV (i + 1) = N :=by rw [lkF,if_neg nL,← eN]
        have q1:((j:Int) == 3) = false :=beq_eq_false_iff_ne.2 fun z => l3 (by omega)
        repeat ((first|refine qak (nthP g0) ?_|refine qag ir ?_|refine qaf ir ?_|refine pkT ir ?_|refine qaa ir ?_|refine qag q0 ?_|refine qaf q0 ?_|refine pkT q0 ?_|refine qaa q0 ?_|refine qag (qaq q0) ?_|refine qaf (qaq q0) ?_|refine pkT (qaq q0) ?_|refine qaa (qaq q0) ?_|refine qal q1 ?_|refine qam q1 ?_|refine pkF q1 ?_|refine qab q1 ?_|refine qal (qao q1) ?_|refine qam (qao q1) ?_|refine pkF (qao q1) ?_|refine qab (qao q1) ?_|refine qal q2 ?_|refine qam q2 ?_|refine pkF q2 ?_|refine qab q2 ?_|refine qal (qao q2) ?_|refine qam (qao q2) ?_|refine pkF (qao q2) ?_|refine qab (qao q2) ?_|refine qad hS (by kernel_rfl) ?_);conv => whnf)
        exact ⟨(i + 1,(lkW N 17),.nils,bL N.length),⟨hi5,by show St (lkF s VV (i + 1)) (hdF s VV (i + 1)) _ _ _;rw [eL,eH];exact .inr (.inl ⟨sN,sH,rfl,rfl,rfl⟩)⟩,by show VV.length + 1 - (i + 1) < VV.length + 1 - i;omega,Nat.le_refl _,(by refine ⟨rfl,rfl,rfl,rfl,rfl,rfl,20,rfl,?_,?_⟩ <;> repeat' (first|exact trivial|exact rfl|exact wkr rfl|exact wko rfl|exact Nat.zero_le _|exact ⟨_,rfl,WkV.int hi1⟩|exact qa6 _ (by decide)|exact qa7 _ (by decide)|exact qba _ _ (by decide)|exact kle rfl|exact bdq|exact mxI rfl|exact mxS rfl|apply And.intro))⟩
      ·have q0:(gB (spl 32 (gB (spl 10 s) (i + 1))) 0 == [108,105,110,107]) = false :=beq_eq_false_iff_ne.2 t0
       have nL:¬ isLk s VV i :=fun z => t0 z.1
       have eL:lkF s VV (i + 1) = N :=by rw [lkF,if_neg nL,← eN]
       by_cases t1:gB (spl 32 (gB (spl 10 s) (i + 1))) 0 = qfb
       ·have q2:(gB (spl 32 (gB (spl 10 s) (i + 1))) 0 == [104,97,110,100]) = true :=beq_iff_eq.2 t1
        by_cases l1:j = 1
        ·subst l1
         obtain ⟨x,hV⟩ : ∃ x,V = [x] :=by
          rcases V with _ | ⟨x,_ | ⟨y,V⟩⟩
          ·cases eE
          ·exact ⟨x,rfl⟩
          ·simp at eE
         have nH:isHd s VV i :=⟨t1,by rw [← hg3];exact eE⟩
         have eH:hdF s VV (i + 1) = H ++ [x] :=by rw [hdF,if_pos nH,← eM,← hg3,hV];rfl
         subst hV
         have e2 :=hd_1 x 27
         repeat ((first|refine qak (nthP g0) ?_|refine qag ir ?_|refine qaf ir ?_|refine pkT ir ?_|refine qaa ir ?_|refine qal q0 ?_|refine qam q0 ?_|refine pkF q0 ?_|refine qab q0 ?_|refine qal (qao q0) ?_|refine qam (qao q0) ?_|refine pkF (qao q0) ?_|refine qab (qao q0) ?_|refine qag q2 ?_|refine qaf q2 ?_|refine pkT q2 ?_|refine qaa q2 ?_|refine qag (qaq q2) ?_|refine qaf (qaq q2) ?_|refine pkT (qaq q2) ?_|refine qaa (qaq q2) ?_|refine qad hS (by kernel_rfl) ?_);conv => whnf)
         exact ⟨(i + 1,(lkW N 17),hdW [x] 27,bL N.length ++ bH 1),⟨hi5,by show St (lkF s VV (i + 1)) (hdF s VV (i + 1)) _ _ _;rw [eL,eH];rw [sH,List.nil_append];exact .inr (.inr (.inr (.inl ⟨sN,by simp,rfl,rfl,rfl⟩)))⟩,by show VV.length + 1 - (i + 1) < VV.length + 1 - i;omega,kle rfl,(by refine ⟨rfl,rfl,rfl,rfl,rfl,rfl,30,rfl,?_,?_⟩ <;> repeat' (first|exact trivial|exact rfl|exact wkr rfl|exact wko rfl|exact Nat.zero_le _|exact ⟨_,rfl,WkV.int hi1⟩|exact qcd e2|exact qa6 _ (by decide)|exact qa7 _ (by decide)|exact qba _ _ (by decide)|exact kle rfl|exact bdq|exact mxI rfl|exact mxS rfl|apply And.intro))⟩
        ·have nH:¬ isHd s VV i :=fun z => l1 (by have :=z.2;rw [← hg3] at this;omega)
         have eH:hdF s VV (i + 1) = H :=by rw [hdF,if_neg nH,← eM]
         have q1:((j:Int) == 1) = false :=beq_eq_false_iff_ne.2 fun z => l1 (by omega)
         repeat ((first|refine qak (nthP g0) ?_|refine qag ir ?_|refine qaf ir ?_|refine pkT ir ?_|refine qaa ir ?_|refine qal q0 ?_|refine qam q0 ?_|refine pkF q0 ?_|refine qab q0 ?_|refine qal (qao q0) ?_|refine qam (qao q0) ?_|refine pkF (qao q0) ?_|refine qab (qao q0) ?_|refine qag q2 ?_|refine qaf q2 ?_|refine pkT q2 ?_|refine qaa q2 ?_|refine qag (qaq q2) ?_|refine qaf (qaq q2) ?_|refine pkT (qaq q2) ?_|refine qaa (qaq q2) ?_|refine qal q1 ?_|refine qam q1 ?_|refine pkF q1 ?_|refine qab q1 ?_|refine qal (qao q1) ?_|refine qam (qao q1) ?_|refine pkF (qao q1) ?_|refine qab (qao q1) ?_|refine qad hS (by kernel_rfl) ?_);conv => whnf)
         exact ⟨(i + 1,(lkW N 17),.nils,bL N.length),⟨hi5,by show St (lkF s VV (i + 1)) (hdF s VV (i + 1)) _ _ _;rw [eL,eH];exact .inr (.inl ⟨sN,sH,rfl,rfl,rfl⟩)⟩,by show VV.length + 1 - (i + 1) < VV.length + 1 - i;omega,Nat.le_refl _,(by refine ⟨rfl,rfl,rfl,rfl,rfl,rfl,20,rfl,?_,?_⟩ <;> repeat' (first|exact trivial|exact rfl|exact wkr rfl|exact wko rfl|exact Nat.zero_le _|exact ⟨_,rfl,WkV.int hi1⟩|exact qa6 _ (by decide)|exact qa7 _ (by decide)|exact qba _ _ (by decide)|exact kle rfl|exact bdq|exact mxI rfl|exact mxS rfl|apply And.intro))⟩
       ·have q2:(gB (spl 32 (gB (spl 10 s) (i + 1))) 0 == [104,97,110,100]) = false :=beq_eq_false_iff_ne.2 t1
        have nH:¬ isHd s VV i :=fun z => t1 z.1
        have eH:hdF s VV (i + 1) = H :=by rw [hdF,if_neg nH,← eM]
        repeat ((first|refine qak (nthP g0) ?_|refine qag ir ?_|refine qaf ir ?_|refine pkT ir ?_|refine qaa ir ?_|refine qal q0 ?_|refine qam q0 ?_|refine pkF q0 ?_|refine qab q0 ?_|refine qal (qao q0) ?_|refine qam (qao q0) ?_|refine pkF (qao q0) ?_|refine qab (qao q0) ?_|refine qal q2 ?_|refine qam q2 ?_|refine pkF q2 ?_|refine qab q2 ?_|refine qal (qao q2) ?_|refine qam (qao q2) ?_|refine pkF (qao q2) ?_|refine qab (qao q2) ?_|refine qad hS (by kernel_rfl) ?_);conv => whnf)
        exact ⟨(i + 1,(lkW N 17),.nils,bL N.length),⟨hi5,by show St (lkF s VV (i + 1)) (hdF s VV (i + 1)) _ _ _;rw [eL,eH];exact .inr (.inl ⟨sN,sH,rfl,rfl,rfl⟩)⟩,by show VV.length + 1 - (i + 1) < VV.length + 1 - i;omega,Nat.le_refl _,(by refine ⟨rfl,rfl,rfl,rfl,rfl,rfl,20,rfl,?_,?_⟩ <;> repeat' (first|exact trivial|exact rfl|exact wkr rfl|exact wko rfl|exact Nat.zero_le _|exact ⟨_,rfl,WkV.int hi1⟩|exact qa6 _ (by decide)|exact qa7 _ (by decide)|exact qba _ _ (by decide)|exact kle rfl|exact bdq|exact mxI rfl|exact mxS rfl|apply And.intro))⟩
  ·have c1:decide (Int.ofNat (i + 1) < IntKind.i64.wrap (((spl 10 s).length:Int) - 2)) = false :=decide_eq_false (by rw [wR];simp only [Int.ofNat_eq_natCast];omega)
   have st:St N H (lkW N 17) .nils (bL N.length) :=.inr (.inl ⟨sN,sH,rfl,rfl,rfl⟩)
   have pP :=qeq hok (by omega) (by omega) st
   rcases hend with ⟨hl9,hc⟩ | ⟨hl9,_⟩
   rotate_left
   ·omega
   have hiE:i = VV.length :=by omega
   rw [hiE] at eN eM
   rw [← eN,← eM] at hc
   refine qab (c1) ?_
   conv => whnf
   refine .inl ?_
   conv => whnf
   rcases hc with ⟨hc,hr⟩ | ⟨hc,hr⟩
   ·have te:(prtB N H != s) = false :=by rw [bne,beq_iff_eq.2 hc];rfl
    repeat ((first|refine qal te ?_|refine qam te ?_|refine pkF te ?_|refine qab te ?_|refine qac hC (pP) ?_|refine qad hS (by kernel_rfl) ?_);conv => whnf)
    rw [hr]
    exact ⟨_,rfl,qpi st⟩
   ·have te:(prtB N H != s) = true :=by rw [bne,beq_eq_false_iff_ne.2 hc];rfl
    repeat ((first|refine qag te ?_|refine qaf te ?_|refine pkT te ?_|refine qaa te ?_|refine qac hC (pP) ?_|refine qad hS (by kernel_rfl) ?_);conv => whnf)
    rw [hr]
    exact ⟨_,rfl,Wk.refl _⟩
 ·obtain ⟨sN,sH,rfl,rfl,rfl⟩ :=hst
  obtain rfl:K = 12 :=hK
  conv => whnf
  by_cases him:i < (spl 10 s).length - 3
  ·have c1:decide (Int.ofNat (i + 1) < IntKind.i64.wrap (((spl 10 s).length:Int) - 2)) = true :=decide_eq_true (by rw [wR];simp only [Int.ofNat_eq_natCast];omega)
   have hi1:IntKind.i64.wrap (Int.ofNat (i + 1) + 1) = Int.ofNat (i + 1 + 1) :=qaz (m :=i + 1 + 1) (by omega)
   have hil:i + 1 < (spl 10 s).length :=by omega
   have gR:nth (stA (spl 10 s)) ((i + 1) * 1) = some (.str (gB (spl 10 s) (i + 1))) :=qa9 hil
   have hgl :=qk6 10 s (i + 1)
   have pW :=qcw (gB (spl 10 s) (i + 1)) 32 (by omega)
   have lW :=qa1 (spl 32 (gB (spl 10 s) (i + 1)))
   have hwl :=qfd 32 (gB (spl 10 s) (i + 1))
   have hw0:0 < (spl 32 (gB (spl 10 s) (i + 1))).length :=by rw [qc9];omega
   have ir:inR 0 (spl 32 (gB (spl 10 s) (i + 1))).length = true :=qaj (i :=0) hw0
   have g0:nth (stA (spl 32 (gB (spl 10 s) (i + 1)))) (0:Int).toNat = some (.str (gB (spl 32 (gB (spl 10 s) (i + 1))) 0)) :=qa9 (i :=0) hw0
   obtain ⟨V,hV9,hE⟩ :=qku hrow hend him hi
   have lV :=qav (zl V)
   repeat ((first|refine qak (nthP gR) ?_|refine qag c1 ?_|refine qaf c1 ?_|refine pkT c1 ?_|refine qaa c1 ?_|refine qag (qaj hil) ?_|refine qaf (qaj hil) ?_|refine pkT (qaj hil) ?_|refine qaa (qaj hil) ?_|refine qac hC (pW) ?_|refine qad hS (by kernel_rfl) ?_);conv => whnf)
   refine qax hE0 hS (A :=Nat × AV × List AObj) [0,2,3,4,5,6,7] (fun (j,n,_) => [(8,n),(9,nv (j + 1))]) (fun _ => []) (fun a => a.2.2) (fun (j,n,ux) => j ≤ V.length ∧ (j = 0 ∧ n = .nils ∧ ux = [] ∨ 0 < j ∧ n = nuW V j 12 ∧ ux = [.chain j 1 3])) (fun (j,_,_) => V.length - j) (0,.nils,[]) (kle rfl) rfl (by refine ⟨rfl,rfl,rfl,rfl,rfl,rfl,12,rfl,?_,?_⟩ <;> repeat' (first|exact trivial|exact rfl|exact wkr rfl|exact wko rfl|exact Nat.zero_le _|exact qa6 _ (by decide)|exact qa7 _ (by decide)|exact qba _ _ (by decide)|exact kle rfl|exact bdq|exact mxI rfl|exact mxS rfl|apply And.intro)) ⟨Nat.zero_le _,.inl ⟨rfl,rfl,rfl⟩⟩ ?_
   rintro ⟨j,nn,ux⟩ ⟨hj,hn⟩ K2 hK2
   have hj:j ≤ V.length :=hj
   have lVj :=qav (zl (V.take j))
   refine Or.elim hn (fun hn => ?_) fun hn => ?_
   ·obtain ⟨rfl,rfl,rfl⟩ :=hn
    obtain rfl:K2 = 12 :=hK2
    conv => whnf
    by_cases hj3:0 < V.length
    ·have hj4:0 + 1 < (spl 32 (gB (spl 10 s) (i + 1))).length :=by omega
     have hj1:IntKind.i64.wrap (Int.ofNat (0 + 1) + 1) = Int.ofNat (0 + 1 + 1) :=qaz (m :=0 + 1 + 1) (by omega)
     have gI:nth (stA (spl 32 (gB (spl 10 s) (i + 1)))) ((0 + 1) * 1) = some (.str (dec (gn V 0))) :=by rw [qa9 hj4,(hV9 0 hj3).2]
     have pN :=qdz (hV9 0 hj3).1
     have nn:decide (Int.ofNat (gn V 0) < 0) = false :=decide_eq_false (Int.not_lt.2 (Int.natCast_nonneg _))
     have e2 :=nu_1 V 12 hj3
     repeat ((first|refine qak (nthP gI) ?_|refine qag (qae hj4) ?_|refine qaf (qae hj4) ?_|refine pkT (qae hj4) ?_|refine qaa (qae hj4) ?_|refine qal (qae hj4) ?_|refine qam (qae hj4) ?_|refine pkF (qae hj4) ?_|refine qab (qae hj4) ?_|refine qag (qaj hj4) ?_|refine qaf (qaj hj4) ?_|refine pkT (qaj hj4) ?_|refine qaa (qaj hj4) ?_|refine qal nn ?_|refine qam nn ?_|refine pkF nn ?_|refine qab nn ?_|refine qac hC (pN) ?_|refine qad hS (by kernel_rfl) ?_);conv => whnf)
     exact ⟨(1,nuW V 1 12,[.chain 1 1 3]),⟨hj3,.inr ⟨Nat.zero_lt_one,rfl,rfl⟩⟩,by show V.length - 1 < V.length - 0;omega,kle rfl,(by refine ⟨rfl,rfl,rfl,rfl,rfl,rfl,13,rfl,?_,?_⟩ <;> repeat' (first|exact trivial|exact rfl|exact wkr rfl|exact wko rfl|exact Nat.zero_le _|exact ⟨_,rfl,WkV.int hj1⟩|exact ⟨_,rfl,WkV.eq e2⟩|exact qa6 _ (by decide)|exact qa7 _ (by decide)|exact qba _ _ (by decide)|exact kle rfl|exact bdq|exact mxI rfl|exact mxS rfl|apply And.intro))⟩
    ·have hjE:V.length = 0 :=by omega
     by_cases hj4:0 + 1 < (spl 32 (gB (spl 10 s) (i + 1))).length
     ·rcases hE with ⟨hg1,_⟩ | ⟨_,hr,pB⟩
      ·omega
      rw [hjE] at pB
      have gI:nth (stA (spl 32 (gB (spl 10 s) (i + 1)))) ((0 + 1) * 1) = some (.str (gB (spl 32 (gB (spl 10 s) (i + 1))) (0 + 1))) :=qa9 hj4
      repeat ((first|refine qak (nthP gI) ?_|refine qag (qae hj4) ?_|refine qaf (qae hj4) ?_|refine pkT (qae hj4) ?_|refine qaa (qae hj4) ?_|refine qal (qae hj4) ?_|refine qam (qae hj4) ?_|refine pkF (qae hj4) ?_|refine qab (qae hj4) ?_|refine qag (qaj hj4) ?_|refine qaf (qaj hj4) ?_|refine pkT (qaj hj4) ?_|refine qaa (qaj hj4) ?_|refine qac hC (pB) ?_|refine qad hS (by kernel_rfl) ?_);conv => whnf)
      rw [hr]
      exact ⟨_,rfl,Wk.refl _⟩
     ·refine qab (qbe hj4) ?_
      conv => whnf
      refine .inl ?_
      conv => whnf
      have eE:V.length = 0 :=by omega
      rcases hE with ⟨hg1,hg2,hg3⟩ | ⟨hg1,_⟩
      rotate_left
      ·omega
      have hi5:i + 1 ≤ VV.length :=hg2
      by_cases t0:gB (spl 32 (gB (spl 10 s) (i + 1))) 0 = qen
      ·have q0:(gB (spl 32 (gB (spl 10 s) (i + 1))) 0 == [108,105,110,107]) = true :=beq_iff_eq.2 t0
       have q2:(gB (spl 32 (gB (spl 10 s) (i + 1))) 0 == [104,97,110,100]) = false :=beq_eq_false_iff_ne.2 (by rw [t0];decide)
       have nH:¬ isHd s VV i :=fun z => absurd (t0.symm.trans z.1) (by decide)
       have eH:hdF s VV (i + 1) = H :=by rw [hdF,if_neg nH,← eM]
       have nL:¬ isLk s VV i :=fun z => by have :=z.2;rw [← hg3] at this;omega
       have eL:lkF s VV (i + 1) = N :=by rw [lkF,if_neg nL,← eN]
       repeat ((first|refine qak (nthP g0) ?_|refine qag ir ?_|refine qaf ir ?_|refine pkT ir ?_|refine qaa ir ?_|refine qag q0 ?_|refine qaf q0 ?_|refine pkT q0 ?_|refine qaa q0 ?_|refine qag (qaq q0) ?_|refine qaf (qaq q0) ?_|refine pkT (qaq q0) ?_|refine qaa (qaq q0) ?_|refine qal q2 ?_|refine qam q2 ?_|refine pkF q2 ?_|refine qab q2 ?_|refine qal (qao q2) ?_|refine qam (qao q2) ?_|refine pkF (qao q2) ?_|refine qab (qao q2) ?_|refine qad hS (by kernel_rfl) ?_);conv => whnf)
       exact ⟨(i + 1,.nils,(hdW H 9),bH H.length),⟨hi5,by show St (lkF s VV (i + 1)) (hdF s VV (i + 1)) _ _ _;rw [eL,eH];exact .inr (.inr (.inl ⟨sN,sH,rfl,rfl,rfl⟩))⟩,by show VV.length + 1 - (i + 1) < VV.length + 1 - i;omega,Nat.le_refl _,(by refine ⟨rfl,rfl,rfl,rfl,rfl,rfl,12,rfl,?_,?_⟩ <;> repeat' (first|exact trivial|exact rfl|exact wkr rfl|exact wko rfl|exact Nat.zero_le _|exact ⟨_,rfl,WkV.int hi1⟩|exact qa6 _ (by decide)|exact qa7 _ (by decide)|exact qba _ _ (by decide)|exact kle rfl|exact bdq|exact mxI rfl|exact mxS rfl|apply And.intro))⟩
      ·have q0:(gB (spl 32 (gB (spl 10 s) (i + 1))) 0 == [108,105,110,107]) = false :=beq_eq_false_iff_ne.2 t0
       have nL:¬ isLk s VV i :=fun z => t0 z.1
       have eL:lkF s VV (i + 1) = N :=by rw [lkF,if_neg nL,← eN]
       by_cases t1:gB (spl 32 (gB (spl 10 s) (i + 1))) 0 = qfb
       ·have q2:(gB (spl 32 (gB (spl 10 s) (i + 1))) 0 == [104,97,110,100]) = true :=beq_iff_eq.2 t1
        have nH:¬ isHd s VV i :=fun z => by have :=z.2;rw [← hg3] at this;omega
        have eH:hdF s VV (i + 1) = H :=by rw [hdF,if_neg nH,← eM]
        repeat ((first|refine qak (nthP g0) ?_|refine qag ir ?_|refine qaf ir ?_|refine pkT ir ?_|refine qaa ir ?_|refine qal q0 ?_|refine qam q0 ?_|refine pkF q0 ?_|refine qab q0 ?_|refine qal (qao q0) ?_|refine qam (qao q0) ?_|refine pkF (qao q0) ?_|refine qab (qao q0) ?_|refine qag q2 ?_|refine qaf q2 ?_|refine pkT q2 ?_|refine qaa q2 ?_|refine qag (qaq q2) ?_|refine qaf (qaq q2) ?_|refine pkT (qaq q2) ?_|refine qaa (qaq q2) ?_|refine qad hS (by kernel_rfl) ?_);conv => whnf)
        exact ⟨(i + 1,.nils,(hdW H 9),bH H.length),⟨hi5,by show St (lkF s VV (i + 1)) (hdF s VV (i + 1)) _ _ _;rw [eL,eH];exact .inr (.inr (.inl ⟨sN,sH,rfl,rfl,rfl⟩))⟩,by show VV.length + 1 - (i + 1) < VV.length + 1 - i;omega,Nat.le_refl _,(by refine ⟨rfl,rfl,rfl,rfl,rfl,rfl,12,rfl,?_,?_⟩ <;> repeat' (first|exact trivial|exact rfl|exact wkr rfl|exact wko rfl|exact Nat.zero_le _|exact ⟨_,rfl,WkV.int hi1⟩|exact qa6 _ (by decide)|exact qa7 _ (by decide)|exact qba _ _ (by decide)|exact kle rfl|exact bdq|exact mxI rfl|exact mxS rfl|apply And.intro))⟩
       ·have q2:(gB (spl 32 (gB (spl 10 s) (i + 1))) 0 == [104,97,110,100]) = false :=beq_eq_false_iff_ne.2 t1
        have nH:¬ isHd s VV i :=fun z => t1 z.1
        have eH:hdF s VV (i + 1) = H :=by rw [hdF,if_neg nH,← eM]
        repeat ((first|refine qak (nthP g0) ?_|refine qag ir ?_|refine qaf ir ?_|refine pkT ir ?_|refine qaa ir ?_|refine qal q0 ?_|refine qam q0 ?_|refine pkF q0 ?_|refine qab q0 ?_|refine qal (qao q0) ?_|refine qam (qao q0) ?_|refine pkF (qao q0) ?_|refine qab (qao q0) ?_|refine qal q2 ?_|refine qam q2 ?_|refine pkF q2 ?_|refine qab q2 ?_|refine qal (qao q2) ?_|refine qam (qao q2) ?_|refine pkF (qao q2) ?_|refine qab (qao q2) ?_|refine qad hS (by kernel_rfl) ?_);conv => whnf)
        exact ⟨(i + 1,.nils,(hdW H 9),bH H.length),⟨hi5,by show St (lkF s VV (i + 1)) (hdF s VV (i + 1)) _ _ _;rw [eL,eH];exact .inr (.inr (.inl ⟨sN,sH,rfl,rfl,rfl⟩))⟩,by show VV.length + 1 - (i + 1) < VV.length + 1 - i;omega,Nat.le_refl _,(by refine ⟨rfl,rfl,rfl,rfl,rfl,rfl,12,rfl,?_,?_⟩ <;> repeat' (first|exact trivial|exact rfl|exact wkr rfl|exact wko rfl|exact Nat.zero_le _|exact ⟨_,rfl,WkV.int hi1⟩|exact qa6 _ (by decide)|exact qa7 _ (by decide)|exact qba _ _ (by decide)|exact kle rfl|exact bdq|exact mxI rfl|exact mxS rfl|apply And.intro))⟩
   ·obtain ⟨hj2,rfl,rfl⟩ :=hn
    obtain rfl:K2 = 13 :=hK2
    conv => whnf
    by_cases hj3:j < V.length
    ·have hj4:j + 1 < (spl 32 (gB (spl 10 s) (i + 1))).length :=by omega
     have hj1:IntKind.i64.wrap (Int.ofNat (j + 1) + 1) = Int.ofNat (j + 1 + 1) :=qaz (m :=j + 1 + 1) (by omega)
     have gI:nth (stA (spl 32 (gB (spl 10 s) (i + 1)))) ((j + 1) * 1) = some (.str (dec (gn V j))) :=by rw [qa9 hj4,(hV9 j hj3).2]
     have pN :=qdz (hV9 j hj3).1
     have nn:decide (Int.ofNat (gn V j) < 0) = false :=decide_eq_false (Int.not_lt.2 (Int.natCast_nonneg _))
     have e2 :=nu_n V 12 hj3
     have d1:decide ((j + (0 + 1)) * 8 ≤ 140737488355328) = true :=decide_eq_true (by omega)
     have d2:decide (j + (0 + 1) ≤ 9223372036854775807) = true :=decide_eq_true (by omega)
     have d4:decide (j = j) = true :=decide_eq_true rfl
     have d5 :=qfz V hj
     repeat ((first|refine qak (nthP gI) ?_|refine qag (qae hj4) ?_|refine qaf (qae hj4) ?_|refine pkT (qae hj4) ?_|refine qaa (qae hj4) ?_|refine qal (qae hj4) ?_|refine qam (qae hj4) ?_|refine pkF (qae hj4) ?_|refine qab (qae hj4) ?_|refine qag (qaj hj4) ?_|refine qaf (qaj hj4) ?_|refine pkT (qaj hj4) ?_|refine qaa (qaj hj4) ?_|refine qal nn ?_|refine qam nn ?_|refine pkF nn ?_|refine qab nn ?_|refine qag d1 ?_|refine qaf d1 ?_|refine pkT d1 ?_|refine qaa d1 ?_|refine qag d2 ?_|refine qaf d2 ?_|refine pkT d2 ?_|refine qaa d2 ?_|refine qag d4 ?_|refine qaf d4 ?_|refine pkT d4 ?_|refine qaa d4 ?_|refine qag d5 ?_|refine qaf d5 ?_|refine pkT d5 ?_|refine qaa d5 ?_|refine qal d5 ?_|refine qam d5 ?_|refine pkF d5 ?_|refine qab d5 ?_|refine qac hC (pN) ?_|refine qad hS (by kernel_rfl) ?_);conv => whnf)
     exact ⟨(j + 1,nuW V (j + 1) 12,[.chain (j + 1) 1 3]),⟨hj3,.inr ⟨Nat.succ_pos _,rfl,rfl⟩⟩,by show V.length - (j + 1) < V.length - j;omega,kle rfl,(by refine ⟨rfl,rfl,rfl,rfl,rfl,rfl,13,rfl,?_,?_⟩ <;> repeat' (first|exact trivial|exact rfl|exact wkr rfl|exact wko rfl|exact Nat.zero_le _|exact ⟨_,rfl,WkV.int hj1⟩|exact ⟨_,rfl,WkV.eq e2⟩|exact qa6 _ (by decide)|exact qa7 _ (by decide)|exact qba _ _ (by decide)|exact kle rfl|exact bdq|exact mxI rfl|exact mxS rfl|apply And.intro))⟩
    ·have hjE:V.length = j :=by omega
     by_cases hj4:j + 1 < (spl 32 (gB (spl 10 s) (i + 1))).length
     ·rcases hE with ⟨hg1,_⟩ | ⟨_,hr,pB⟩
      ·omega
      rw [hjE] at pB
      have gI:nth (stA (spl 32 (gB (spl 10 s) (i + 1)))) ((j + 1) * 1) = some (.str (gB (spl 32 (gB (spl 10 s) (i + 1))) (j + 1))) :=qa9 hj4
      repeat ((first|refine qak (nthP gI) ?_|refine qag (qae hj4) ?_|refine qaf (qae hj4) ?_|refine pkT (qae hj4) ?_|refine qaa (qae hj4) ?_|refine qal (qae hj4) ?_|refine qam (qae hj4) ?_|refine pkF (qae hj4) ?_|refine qab (qae hj4) ?_|refine qag (qaj hj4) ?_|refine qaf (qaj hj4) ?_|refine pkT (qaj hj4) ?_|refine qaa (qaj hj4) ?_|refine qac hC (pB) ?_|refine qad hS (by kernel_rfl) ?_);conv => whnf)
      rw [hr]
      exact ⟨_,rfl,Wk.refl _⟩
     ·refine qab (qbe hj4) ?_
      conv => whnf
      refine .inl ?_
      conv => whnf
      have eE:V.length = j :=by omega
      rcases hE with ⟨hg1,hg2,hg3⟩ | ⟨hg1,_⟩
      rotate_left
      ·omega
      have hi5:i + 1 ≤ VV.length :=hg2
      by_cases t0:gB (spl 32 (gB (spl 10 s) (i + 1))) 0 = qen
      ·have q0:(gB (spl 32 (gB (spl 10 s) (i + 1))) 0 == [108,105,110,107]) = true :=beq_iff_eq.2 t0
       have q2:(gB (spl 32 (gB (spl 10 s) (i + 1))) 0 == [104,97,110,100]) = false :=beq_eq_false_iff_ne.2 (by rw [t0];decide)
       have nH:¬ isHd s VV i :=fun z => absurd (t0.symm.trans z.1) (by decide)
       have eH:hdF s VV (i + 1) = H :=by rw [hdF,if_neg nH,← eM]
       by_cases l3:j = 3
       ·subst l3
        obtain ⟨x,y,z,hV⟩ : ∃ x y z,V = [x,y,z] :=by
         rcases V with _ | ⟨x,_ | ⟨y,_ | ⟨z,_ | ⟨u,V⟩⟩⟩⟩
         ·cases eE
         ·cases eE
         ·cases eE
         ·exact ⟨x,y,z,rfl⟩
         ·simp at eE
        have nL:isLk s VV i :=⟨t0,by rw [← hg3];exact eE⟩
        have eL:lkF s VV (i + 1) = N ++ [(x,y,z)] :=by rw [lkF,if_pos nL,← eN,← hg3,hV];rfl
        subst hV
        have e2 :=lk_1 (x,y,z) 27
        repeat ((first|refine qak (nthP g0) ?_|refine qag ir ?_|refine qaf ir ?_|refine pkT ir ?_|refine qaa ir ?_|refine qag q0 ?_|refine qaf q0 ?_|refine pkT q0 ?_|refine qaa q0 ?_|refine qag (qaq q0) ?_|refine qaf (qaq q0) ?_|refine pkT (qaq q0) ?_|refine qaa (qaq q0) ?_|refine qal q2 ?_|refine qam q2 ?_|refine pkF q2 ?_|refine qab q2 ?_|refine qal (qao q2) ?_|refine qam (qao q2) ?_|refine pkF (qao q2) ?_|refine qab (qao q2) ?_|refine qad hS (by kernel_rfl) ?_);conv => whnf)
        exact ⟨(i + 1,lkW [(x,y,z)] 27,(hdW H 9),bH H.length ++ bL 1),⟨hi5,by show St (lkF s VV (i + 1)) (hdF s VV (i + 1)) _ _ _;rw [eL,eH];rw [sN,List.nil_append];exact .inr (.inr (.inr (.inr ⟨by simp,sH,rfl,rfl,rfl⟩)))⟩,by show VV.length + 1 - (i + 1) < VV.length + 1 - i;omega,kle rfl,(by refine ⟨rfl,rfl,rfl,rfl,rfl,rfl,30,rfl,?_,?_⟩ <;> repeat' (first|exact trivial|exact rfl|exact wkr rfl|exact wko rfl|exact Nat.zero_le _|exact ⟨_,rfl,WkV.int hi1⟩|exact qcy e2|exact qa6 _ (by decide)|exact qa7 _ (by decide)|exact qba _ _ (by decide)|exact kle rfl|exact bdq|exact mxI rfl|exact mxS rfl|apply And.intro))⟩
       ·have nL:¬ isLk s VV i :=fun z => l3 (by have :=z.2;rw [← hg3] at this;omega)
        have eL:lkF s VV (i + 1) = N :=by rw [lkF,if_neg nL,← eN]
        have q1:((j:Int) == 3) = false :=beq_eq_false_iff_ne.2 fun z => l3 (by omega)
        repeat ((first|refine qak (nthP g0) ?_|refine qag ir ?_|refine qaf ir ?_|refine pkT ir ?_|refine qaa ir ?_|refine qag q0 ?_|refine qaf q0 ?_|refine pkT q0 ?_|refine qaa q0 ?_|refine qag (qaq q0) ?_|refine qaf (qaq q0) ?_|refine pkT (qaq q0) ?_|refine qaa (qaq q0) ?_|refine qal q1 ?_|refine qam q1 ?_|refine pkF q1 ?_|refine qab q1 ?_|refine qal (qao q1) ?_|refine qam (qao q1) ?_|refine pkF (qao q1) ?_|refine qab (qao q1) ?_|refine qal q2 ?_|refine qam q2 ?_|refine pkF q2 ?_|refine qab q2 ?_|refine qal (qao q2) ?_|refine qam (qao q2) ?_|refine pkF (qao q2) ?_|refine qab (qao q2) ?_|refine qad hS (by kernel_rfl) ?_);conv => whnf)
        exact ⟨(i + 1,.nils,(hdW H 9),bH H.length),⟨hi5,by show St (lkF s VV (i + 1)) (hdF s VV (i + 1)) _ _ _;rw [eL,eH];exact .inr (.inr (.inl ⟨sN,sH,rfl,rfl,rfl⟩))⟩,by show VV.length + 1 - (i + 1) < VV.length + 1 - i;omega,Nat.le_refl _,(by refine ⟨rfl,rfl,rfl,rfl,rfl,rfl,12,rfl,?_,?_⟩ <;> repeat' (first|exact trivial|exact rfl|exact wkr rfl|exact wko rfl|exact Nat.zero_le _|exact ⟨_,rfl,WkV.int hi1⟩|exact qa6 _ (by decide)|exact qa7 _ (by decide)|exact qba _ _ (by decide)|exact kle rfl|exact bdq|exact mxI rfl|exact mxS rfl|apply And.intro))⟩
      ·have q0:(gB (spl 32 (gB (spl 10 s) (i + 1))) 0 == [108,105,110,107]) = false :=beq_eq_false_iff_ne.2 t0
       have nL:¬ isLk s VV i :=fun z => t0 z.1
       have eL:lkF s VV (i + 1) = N :=by rw [lkF,if_neg nL,← eN]
       by_cases t1:gB (spl 32 (gB (spl 10 s) (i + 1))) 0 = qfb
       ·have q2:(gB (spl 32 (gB (spl 10 s) (i + 1))) 0 == [104,97,110,100]) = true :=beq_iff_eq.2 t1
        by_cases l1:j = 1
        ·subst l1
         obtain ⟨x,hV⟩ : ∃ x,V = [x] :=by
          rcases V with _ | ⟨x,_ | ⟨y,V⟩⟩
          ·cases eE
          ·exact ⟨x,rfl⟩
          ·simp at eE
         have nH:isHd s VV i :=⟨t1,by rw [← hg3];exact eE⟩
         have eH:hdF s VV (i + 1) = H ++ [x] :=by rw [hdF,if_pos nH,← eM,← hg3,hV];rfl
         subst hV
         have e2 :=hd_n H x 9
         have d1:decide ((H.length + (0 + 1)) * 8 ≤ 140737488355328) = true :=decide_eq_true (by omega)
         have d2:decide (H.length + (0 + 1) ≤ 9223372036854775807) = true :=decide_eq_true (by omega)
         have d4:decide (H.length = H.length) = true :=decide_eq_true rfl
         have d5 :=qh3 H
         repeat ((first|refine qak (nthP g0) ?_|refine qag ir ?_|refine qaf ir ?_|refine pkT ir ?_|refine qaa ir ?_|refine qal q0 ?_|refine qam q0 ?_|refine pkF q0 ?_|refine qab q0 ?_|refine qal (qao q0) ?_|refine qam (qao q0) ?_|refine pkF (qao q0) ?_|refine qab (qao q0) ?_|refine qag q2 ?_|refine qaf q2 ?_|refine pkT q2 ?_|refine qaa q2 ?_|refine qag (qaq q2) ?_|refine qaf (qaq q2) ?_|refine pkT (qaq q2) ?_|refine qaa (qaq q2) ?_|refine qag d1 ?_|refine qaf d1 ?_|refine pkT d1 ?_|refine qaa d1 ?_|refine qag d2 ?_|refine qaf d2 ?_|refine pkT d2 ?_|refine qaa d2 ?_|refine qag d4 ?_|refine qaf d4 ?_|refine pkT d4 ?_|refine qaa d4 ?_|refine qag d5 ?_|refine qaf d5 ?_|refine pkT d5 ?_|refine qaa d5 ?_|refine qal d5 ?_|refine qam d5 ?_|refine pkF d5 ?_|refine qab d5 ?_|refine qad hS (by kernel_rfl) ?_);conv => whnf)
         exact ⟨(i + 1,.nils,hdW (H ++ [x]) 9,bH (H.length + 1)),⟨hi5,by show St (lkF s VV (i + 1)) (hdF s VV (i + 1)) _ _ _;rw [eL,eH];exact .inr (.inr (.inl ⟨sN,by simp,rfl,rfl,(by rw [List.length_append];rfl)⟩))⟩,by show VV.length + 1 - (i + 1) < VV.length + 1 - i;omega,kle rfl,(by refine ⟨rfl,rfl,rfl,rfl,rfl,rfl,12,rfl,?_,?_⟩ <;> repeat' (first|exact trivial|exact rfl|exact wkr rfl|exact wko rfl|exact Nat.zero_le _|exact ⟨_,rfl,WkV.int hi1⟩|exact qcd e2|exact qa6 _ (by decide)|exact qa7 _ (by decide)|exact qba _ _ (by decide)|exact kle rfl|exact bdq|exact mxI rfl|exact mxS rfl|apply And.intro))⟩
        ·have nH:¬ isHd s VV i :=fun z => l1 (by have :=z.2;rw [← hg3] at this;omega)
         have eH:hdF s VV (i + 1) = H :=by rw [hdF,if_neg nH,← eM]
         have q1:((j:Int) == 1) = false :=beq_eq_false_iff_ne.2 fun z => l1 (by omega)
         repeat ((first|refine qak (nthP g0) ?_|refine qag ir ?_|refine qaf ir ?_|refine pkT ir ?_|refine qaa ir ?_|refine qal q0 ?_|refine qam q0 ?_|refine pkF q0 ?_|refine qab q0 ?_|refine qal (qao q0) ?_|refine qam (qao q0) ?_|refine pkF (qao q0) ?_|refine qab (qao q0) ?_|refine qag q2 ?_|refine qaf q2 ?_|refine pkT q2 ?_|refine qaa q2 ?_|refine qag (qaq q2) ?_|refine qaf (qaq q2) ?_|refine pkT (qaq q2) ?_|refine qaa (qaq q2) ?_|refine qal q1 ?_|refine qam q1 ?_|refine pkF q1 ?_|refine qab q1 ?_|refine qal (qao q1) ?_|refine qam (qao q1) ?_|refine pkF (qao q1) ?_|refine qab (qao q1) ?_|refine qad hS (by kernel_rfl) ?_);conv => whnf)
         exact ⟨(i + 1,.nils,(hdW H 9),bH H.length),⟨hi5,by show St (lkF s VV (i + 1)) (hdF s VV (i + 1)) _ _ _;rw [eL,eH];exact .inr (.inr (.inl ⟨sN,sH,rfl,rfl,rfl⟩))⟩,by show VV.length + 1 - (i + 1) < VV.length + 1 - i;omega,Nat.le_refl _,(by refine ⟨rfl,rfl,rfl,rfl,rfl,rfl,12,rfl,?_,?_⟩ <;> repeat' (first|exact trivial|exact rfl|exact wkr rfl|exact wko rfl|exact Nat.zero_le _|exact ⟨_,rfl,WkV.int hi1⟩|exact qa6 _ (by decide)|exact qa7 _ (by decide)|exact qba _ _ (by decide)|exact kle rfl|exact bdq|exact mxI rfl|exact mxS rfl|apply And.intro))⟩
       ·have q2:(gB (spl 32 (gB (spl 10 s) (i + 1))) 0 == [104,97,110,100]) = false :=beq_eq_false_iff_ne.2 t1
        have nH:¬ isHd s VV i :=fun z => t1 z.1
        have eH:hdF s VV (i + 1) = H :=by rw [hdF,if_neg nH,← eM]
        repeat ((first|refine qak (nthP g0) ?_|refine qag ir ?_|refine qaf ir ?_|refine pkT ir ?_|refine qaa ir ?_|refine qal q0 ?_|refine qam q0 ?_|refine pkF q0 ?_|refine qab q0 ?_|refine qal (qao q0) ?_|refine qam (qao q0) ?_|refine pkF (qao q0) ?_|refine qab (qao q0) ?_|refine qal q2 ?_|refine qam q2 ?_|refine pkF q2 ?_|refine qab q2 ?_|refine qal (qao q2) ?_|refine qam (qao q2) ?_|refine pkF (qao q2) ?_|refine qab (qao q2) ?_|refine qad hS (by kernel_rfl) ?_);conv => whnf)
        exact ⟨(i + 1,.nils,(hdW H 9),bH H.length),⟨hi5,by show St (lkF s VV (i + 1)) (hdF s VV (i + 1)) _ _ _;rw [eL,eH];exact .inr (.inr (.inl ⟨sN,sH,rfl,rfl,rfl⟩))⟩,by show VV.length + 1 - (i + 1) < VV.length + 1 - i;omega,Nat.le_refl _,(by refine ⟨rfl,rfl,rfl,rfl,rfl,rfl,12,rfl,?_,?_⟩ <;> repeat' (first|exact trivial|exact rfl|exact wkr rfl|exact wko rfl|exact Nat.zero_le _|exact ⟨_,rfl,WkV.int hi1⟩|exact qa6 _ (by decide)|exact qa7 _ (by decide)|exact qba _ _ (by decide)|exact kle rfl|exact bdq|exact mxI rfl|exact mxS rfl|apply And.intro))⟩
  ·have c1:decide (Int.ofNat (i + 1) < IntKind.i64.wrap (((spl 10 s).length:Int) - 2)) = false :=decide_eq_false (by rw [wR];simp only [Int.ofNat_eq_natCast];omega)
   have st:St N H .nils (hdW H 9) (bH H.length) :=.inr (.inr (.inl ⟨sN,sH,rfl,rfl,rfl⟩))
   have pP :=qeq hok (by omega) (by omega) st
   rcases hend with ⟨hl9,hc⟩ | ⟨hl9,_⟩
   rotate_left
   ·omega
   have hiE:i = VV.length :=by omega
   rw [hiE] at eN eM
   rw [← eN,← eM] at hc
   refine qab (c1) ?_
   conv => whnf
   refine .inl ?_
   conv => whnf
   rcases hc with ⟨hc,hr⟩ | ⟨hc,hr⟩
   ·have te:(prtB N H != s) = false :=by rw [bne,beq_iff_eq.2 hc];rfl
    repeat ((first|refine qal te ?_|refine qam te ?_|refine pkF te ?_|refine qab te ?_|refine qac hC (pP) ?_|refine qad hS (by kernel_rfl) ?_);conv => whnf)
    rw [hr]
    exact ⟨_,rfl,qpi st⟩
   ·have te:(prtB N H != s) = true :=by rw [bne,beq_eq_false_iff_ne.2 hc];rfl
    repeat ((first|refine qag te ?_|refine qaf te ?_|refine pkT te ?_|refine qaa te ?_|refine qac hC (pP) ?_|refine qad hS (by kernel_rfl) ?_);conv => whnf)
    rw [hr]
    exact ⟨_,rfl,Wk.refl _⟩
 ·obtain ⟨sN,sH,rfl,rfl,rfl⟩ :=hst
  obtain rfl:K = 30 :=hK
  conv => whnf
  by_cases him:i < (spl 10 s).length - 3
  ·have c1:decide (Int.ofNat (i + 1) < IntKind.i64.wrap (((spl 10 s).length:Int) - 2)) = true :=decide_eq_true (by rw [wR];simp only [Int.ofNat_eq_natCast];omega)
   have hi1:IntKind.i64.wrap (Int.ofNat (i + 1) + 1) = Int.ofNat (i + 1 + 1) :=qaz (m :=i + 1 + 1) (by omega)
   have hil:i + 1 < (spl 10 s).length :=by omega
   have gR:nth (stA (spl 10 s)) ((i + 1) * 1) = some (.str (gB (spl 10 s) (i + 1))) :=qa9 hil
   have hgl :=qk6 10 s (i + 1)
   have pW :=qcw (gB (spl 10 s) (i + 1)) 32 (by omega)
   have lW :=qa1 (spl 32 (gB (spl 10 s) (i + 1)))
   have hwl :=qfd 32 (gB (spl 10 s) (i + 1))
   have hw0:0 < (spl 32 (gB (spl 10 s) (i + 1))).length :=by rw [qc9];omega
   have ir:inR 0 (spl 32 (gB (spl 10 s) (i + 1))).length = true :=qaj (i :=0) hw0
   have g0:nth (stA (spl 32 (gB (spl 10 s) (i + 1)))) (0:Int).toNat = some (.str (gB (spl 32 (gB (spl 10 s) (i + 1))) 0)) :=qa9 (i :=0) hw0
   obtain ⟨V,hV9,hE⟩ :=qku hrow hend him hi
   have lV :=qav (zl V)
   repeat ((first|refine qak (nthP gR) ?_|refine qag c1 ?_|refine qaf c1 ?_|refine pkT c1 ?_|refine qaa c1 ?_|refine qag (qaj hil) ?_|refine qaf (qaj hil) ?_|refine pkT (qaj hil) ?_|refine qaa (qaj hil) ?_|refine qac hC (pW) ?_|refine qad hS (by kernel_rfl) ?_);conv => whnf)
   refine qax hE0 hS (A :=Nat × AV × List AObj) [0,2,3,4,5,6,7] (fun (j,n,_) => [(8,n),(9,nv (j + 1))]) (fun _ => []) (fun a => a.2.2) (fun (j,n,ux) => j ≤ V.length ∧ (j = 0 ∧ n = .nils ∧ ux = [] ∨ 0 < j ∧ n = nuW V j 30 ∧ ux = [.chain j 1 3])) (fun (j,_,_) => V.length - j) (0,.nils,[]) (kle rfl) rfl (by refine ⟨rfl,rfl,rfl,rfl,rfl,rfl,30,rfl,?_,?_⟩ <;> repeat' (first|exact trivial|exact rfl|exact wkr rfl|exact wko rfl|exact Nat.zero_le _|exact qa6 _ (by decide)|exact qa7 _ (by decide)|exact qba _ _ (by decide)|exact kle rfl|exact bdq|exact mxI rfl|exact mxS rfl|apply And.intro)) ⟨Nat.zero_le _,.inl ⟨rfl,rfl,rfl⟩⟩ ?_
   rintro ⟨j,nn,ux⟩ ⟨hj,hn⟩ K2 hK2
   have hj:j ≤ V.length :=hj
   have lVj :=qav (zl (V.take j))
   refine Or.elim hn (fun hn => ?_) fun hn => ?_
   ·obtain ⟨rfl,rfl,rfl⟩ :=hn
    obtain rfl:K2 = 30 :=hK2
    conv => whnf
    by_cases hj3:0 < V.length
    ·have hj4:0 + 1 < (spl 32 (gB (spl 10 s) (i + 1))).length :=by omega
     have hj1:IntKind.i64.wrap (Int.ofNat (0 + 1) + 1) = Int.ofNat (0 + 1 + 1) :=qaz (m :=0 + 1 + 1) (by omega)
     have gI:nth (stA (spl 32 (gB (spl 10 s) (i + 1)))) ((0 + 1) * 1) = some (.str (dec (gn V 0))) :=by rw [qa9 hj4,(hV9 0 hj3).2]
     have pN :=qdz (hV9 0 hj3).1
     have nn:decide (Int.ofNat (gn V 0) < 0) = false :=decide_eq_false (Int.not_lt.2 (Int.natCast_nonneg _))
     have e2 :=nu_1 V 30 hj3
     repeat ((first|refine qak (nthP gI) ?_|refine qag (qae hj4) ?_|refine qaf (qae hj4) ?_|refine pkT (qae hj4) ?_|refine qaa (qae hj4) ?_|refine qal (qae hj4) ?_|refine qam (qae hj4) ?_|refine pkF (qae hj4) ?_|refine qab (qae hj4) ?_|refine qag (qaj hj4) ?_|refine qaf (qaj hj4) ?_|refine pkT (qaj hj4) ?_|refine qaa (qaj hj4) ?_|refine qal nn ?_|refine qam nn ?_|refine pkF nn ?_|refine qab nn ?_|refine qac hC (pN) ?_|refine qad hS (by kernel_rfl) ?_);conv => whnf)
     exact ⟨(1,nuW V 1 30,[.chain 1 1 3]),⟨hj3,.inr ⟨Nat.zero_lt_one,rfl,rfl⟩⟩,by show V.length - 1 < V.length - 0;omega,kle rfl,(by refine ⟨rfl,rfl,rfl,rfl,rfl,rfl,31,rfl,?_,?_⟩ <;> repeat' (first|exact trivial|exact rfl|exact wkr rfl|exact wko rfl|exact Nat.zero_le _|exact ⟨_,rfl,WkV.int hj1⟩|exact ⟨_,rfl,WkV.eq e2⟩|exact qa6 _ (by decide)|exact qa7 _ (by decide)|exact qba _ _ (by decide)|exact kle rfl|exact bdq|exact mxI rfl|exact mxS rfl|apply And.intro))⟩
    ·have hjE:V.length = 0 :=by omega
     by_cases hj4:0 + 1 < (spl 32 (gB (spl 10 s) (i + 1))).length
     ·rcases hE with ⟨hg1,_⟩ | ⟨_,hr,pB⟩
      ·omega
      rw [hjE] at pB
      have gI:nth (stA (spl 32 (gB (spl 10 s) (i + 1)))) ((0 + 1) * 1) = some (.str (gB (spl 32 (gB (spl 10 s) (i + 1))) (0 + 1))) :=qa9 hj4
      repeat ((first|refine qak (nthP gI) ?_|refine qag (qae hj4) ?_|refine qaf (qae hj4) ?_|refine pkT (qae hj4) ?_|refine qaa (qae hj4) ?_|refine qal (qae hj4) ?_|refine qam (qae hj4) ?_|refine pkF (qae hj4) ?_|refine qab (qae hj4) ?_|refine qag (qaj hj4) ?_|refine qaf (qaj hj4) ?_|refine pkT (qaj hj4) ?_|refine qaa (qaj hj4) ?_|refine qac hC (pB) ?_|refine qad hS (by kernel_rfl) ?_);conv => whnf)
      rw [hr]
      exact ⟨_,rfl,Wk.refl _⟩
     ·refine qab (qbe hj4) ?_
      conv => whnf
      refine .inl ?_
      conv => whnf
      have eE:V.length = 0 :=by omega
      rcases hE with ⟨hg1,hg2,hg3⟩ | ⟨hg1,_⟩
      rotate_left
      ·omega
      have hi5:i + 1 ≤ VV.length :=hg2
      by_cases t0:gB (spl 32 (gB (spl 10 s) (i + 1))) 0 = qen
      ·have q0:(gB (spl 32 (gB (spl 10 s) (i + 1))) 0 == [108,105,110,107]) = true :=beq_iff_eq.2 t0
       have q2:(gB (spl 32 (gB (spl 10 s) (i + 1))) 0 == [104,97,110,100]) = false :=beq_eq_false_iff_ne.2 (by rw [t0];decide)
       have nH:¬ isHd s VV i :=fun z => absurd (t0.symm.trans z.1) (by decide)
       have eH:hdF s VV (i + 1) = H :=by rw [hdF,if_neg nH,← eM]
       have nL:¬ isLk s VV i :=fun z => by have :=z.2;rw [← hg3] at this;omega
       have eL:lkF s VV (i + 1) = N :=by rw [lkF,if_neg nL,← eN]
       repeat ((first|refine qak (nthP g0) ?_|refine qag ir ?_|refine qaf ir ?_|refine pkT ir ?_|refine qaa ir ?_|refine qag q0 ?_|refine qaf q0 ?_|refine pkT q0 ?_|refine qaa q0 ?_|refine qag (qaq q0) ?_|refine qaf (qaq q0) ?_|refine pkT (qaq q0) ?_|refine qaa (qaq q0) ?_|refine qal q2 ?_|refine qam q2 ?_|refine pkF q2 ?_|refine qab q2 ?_|refine qal (qao q2) ?_|refine qam (qao q2) ?_|refine pkF (qao q2) ?_|refine qab (qao q2) ?_|refine qad hS (by kernel_rfl) ?_);conv => whnf)
       exact ⟨(i + 1,(lkW N 17),(hdW H 27),bL N.length ++ bH H.length),⟨hi5,by show St (lkF s VV (i + 1)) (hdF s VV (i + 1)) _ _ _;rw [eL,eH];exact .inr (.inr (.inr (.inl ⟨sN,sH,rfl,rfl,rfl⟩)))⟩,by show VV.length + 1 - (i + 1) < VV.length + 1 - i;omega,Nat.le_refl _,(by refine ⟨rfl,rfl,rfl,rfl,rfl,rfl,30,rfl,?_,?_⟩ <;> repeat' (first|exact trivial|exact rfl|exact wkr rfl|exact wko rfl|exact Nat.zero_le _|exact ⟨_,rfl,WkV.int hi1⟩|exact qa6 _ (by decide)|exact qa7 _ (by decide)|exact qba _ _ (by decide)|exact kle rfl|exact bdq|exact mxI rfl|exact mxS rfl|apply And.intro))⟩
      ·have q0:(gB (spl 32 (gB (spl 10 s) (i + 1))) 0 == [108,105,110,107]) = false :=beq_eq_false_iff_ne.2 t0
       have nL:¬ isLk s VV i :=fun z => t0 z.1
       have eL:lkF s VV (i + 1) = N :=by rw [lkF,if_neg nL,← eN]
       by_cases t1:gB (spl 32 (gB (spl 10 s) (i + 1))) 0 = qfb
       ·have q2:(gB (spl 32 (gB (spl 10 s) (i + 1))) 0 == [104,97,110,100]) = true :=beq_iff_eq.2 t1
        have nH:¬ isHd s VV i :=fun z => by have :=z.2;rw [← hg3] at this;omega
        have eH:hdF s VV (i + 1) = H :=by rw [hdF,if_neg nH,← eM]
        repeat ((first|refine qak (nthP g0) ?_|refine qag ir ?_|refine qaf ir ?_|refine pkT ir ?_|refine qaa ir ?_|refine qal q0 ?_|refine qam q0 ?_|refine pkF q0 ?_|refine qab q0 ?_|refine qal (qao q0) ?_|refine qam (qao q0) ?_|refine pkF (qao q0) ?_|refine qab (qao q0) ?_|refine qag q2 ?_|refine qaf q2 ?_|refine pkT q2 ?_|refine qaa q2 ?_|refine qag (qaq q2) ?_|refine qaf (qaq q2) ?_|refine pkT (qaq q2) ?_|refine qaa (qaq q2) ?_|refine qad hS (by kernel_rfl) ?_);conv => whnf)
        exact ⟨(i + 1,(lkW N 17),(hdW H 27),bL N.length ++ bH H.length),⟨hi5,by show St (lkF s VV (i + 1)) (hdF s VV (i + 1)) _ _ _;rw [eL,eH];exact .inr (.inr (.inr (.inl ⟨sN,sH,rfl,rfl,rfl⟩)))⟩,by show VV.length + 1 - (i + 1) < VV.length + 1 - i;omega,Nat.le_refl _,(by refine ⟨rfl,rfl,rfl,rfl,rfl,rfl,30,rfl,?_,?_⟩ <;> repeat' (first|exact trivial|exact rfl|exact wkr rfl|exact wko rfl|exact Nat.zero_le _|exact ⟨_,rfl,WkV.int hi1⟩|exact qa6 _ (by decide)|exact qa7 _ (by decide)|exact qba _ _ (by decide)|exact kle rfl|exact bdq|exact mxI rfl|exact mxS rfl|apply And.intro))⟩
       ·have q2:(gB (spl 32 (gB (spl 10 s) (i + 1))) 0 == [104,97,110,100]) = false :=beq_eq_false_iff_ne.2 t1
        have nH:¬ isHd s VV i :=fun z => t1 z.1
        have eH:hdF s VV (i + 1) = H :=by rw [hdF,if_neg nH,← eM]
        repeat ((first|refine qak (nthP g0) ?_|refine qag ir ?_|refine qaf ir ?_|refine pkT ir ?_|refine qaa ir ?_|refine qal q0 ?_|refine qam q0 ?_|refine pkF q0 ?_|refine qab q0 ?_|refine qal (qao q0) ?_|refine qam (qao q0) ?_|refine pkF (qao q0) ?_|refine qab (qao q0) ?_|refine qal q2 ?_|refine qam q2 ?_|refine pkF q2 ?_|refine qab q2 ?_|refine qal (qao q2) ?_|refine qam (qao q2) ?_|refine pkF (qao q2) ?_|refine qab (qao q2) ?_|refine qad hS (by kernel_rfl) ?_);conv => whnf)
        exact ⟨(i + 1,(lkW N 17),(hdW H 27),bL N.length ++ bH H.length),⟨hi5,by show St (lkF s VV (i + 1)) (hdF s VV (i + 1)) _ _ _;rw [eL,eH];exact .inr (.inr (.inr (.inl ⟨sN,sH,rfl,rfl,rfl⟩)))⟩,by show VV.length + 1 - (i + 1) < VV.length + 1 - i;omega,Nat.le_refl _,(by refine ⟨rfl,rfl,rfl,rfl,rfl,rfl,30,rfl,?_,?_⟩ <;> repeat' (first|exact trivial|exact rfl|exact wkr rfl|exact wko rfl|exact Nat.zero_le _|exact ⟨_,rfl,WkV.int hi1⟩|exact qa6 _ (by decide)|exact qa7 _ (by decide)|exact qba _ _ (by decide)|exact kle rfl|exact bdq|exact mxI rfl|exact mxS rfl|apply And.intro))⟩
   ·obtain ⟨hj2,rfl,rfl⟩ :=hn
    obtain rfl:K2 = 31 :=hK2
    conv => whnf
    by_cases hj3:j < V.length
    ·have hj4:j + 1 < (spl 32 (gB (spl 10 s) (i + 1))).length :=by omega
     have hj1:IntKind.i64.wrap (Int.ofNat (j + 1) + 1) = Int.ofNat (j + 1 + 1) :=qaz (m :=j + 1 + 1) (by omega)
     have gI:nth (stA (spl 32 (gB (spl 10 s) (i + 1)))) ((j + 1) * 1) = some (.str (dec (gn V j))) :=by rw [qa9 hj4,(hV9 j hj3).2]
     have pN :=qdz (hV9 j hj3).1
     have nn:decide (Int.ofNat (gn V j) < 0) = false :=decide_eq_false (Int.not_lt.2 (Int.natCast_nonneg _))
     have e2 :=nu_n V 30 hj3
     have d1:decide ((j + (0 + 1)) * 8 ≤ 140737488355328) = true :=decide_eq_true (by omega)
     have d2:decide (j + (0 + 1) ≤ 9223372036854775807) = true :=decide_eq_true (by omega)
     have d4:decide (j = j) = true :=decide_eq_true rfl
     have d5 :=qfz V hj
     repeat ((first|refine qak (nthP gI) ?_|refine qag (qae hj4) ?_|refine qaf (qae hj4) ?_|refine pkT (qae hj4) ?_|refine qaa (qae hj4) ?_|refine qal (qae hj4) ?_|refine qam (qae hj4) ?_|refine pkF (qae hj4) ?_|refine qab (qae hj4) ?_|refine qag (qaj hj4) ?_|refine qaf (qaj hj4) ?_|refine pkT (qaj hj4) ?_|refine qaa (qaj hj4) ?_|refine qal nn ?_|refine qam nn ?_|refine pkF nn ?_|refine qab nn ?_|refine qag d1 ?_|refine qaf d1 ?_|refine pkT d1 ?_|refine qaa d1 ?_|refine qag d2 ?_|refine qaf d2 ?_|refine pkT d2 ?_|refine qaa d2 ?_|refine qag d4 ?_|refine qaf d4 ?_|refine pkT d4 ?_|refine qaa d4 ?_|refine qag d5 ?_|refine qaf d5 ?_|refine pkT d5 ?_|refine qaa d5 ?_|refine qal d5 ?_|refine qam d5 ?_|refine pkF d5 ?_|refine qab d5 ?_|refine qac hC (pN) ?_|refine qad hS (by kernel_rfl) ?_);conv => whnf)
     exact ⟨(j + 1,nuW V (j + 1) 30,[.chain (j + 1) 1 3]),⟨hj3,.inr ⟨Nat.succ_pos _,rfl,rfl⟩⟩,by show V.length - (j + 1) < V.length - j;omega,kle rfl,(by refine ⟨rfl,rfl,rfl,rfl,rfl,rfl,31,rfl,?_,?_⟩ <;> repeat' (first|exact trivial|exact rfl|exact wkr rfl|exact wko rfl|exact Nat.zero_le _|exact ⟨_,rfl,WkV.int hj1⟩|exact ⟨_,rfl,WkV.eq e2⟩|exact qa6 _ (by decide)|exact qa7 _ (by decide)|exact qba _ _ (by decide)|exact kle rfl|exact bdq|exact mxI rfl|exact mxS rfl|apply And.intro))⟩
    ·have hjE:V.length = j :=by omega
     by_cases hj4:j + 1 < (spl 32 (gB (spl 10 s) (i + 1))).length
     ·rcases hE with ⟨hg1,_⟩ | ⟨_,hr,pB⟩
      ·omega
      rw [hjE] at pB
      have gI:nth (stA (spl 32 (gB (spl 10 s) (i + 1)))) ((j + 1) * 1) = some (.str (gB (spl 32 (gB (spl 10 s) (i + 1))) (j + 1))) :=qa9 hj4
      repeat ((first|refine qak (nthP gI) ?_|refine qag (qae hj4) ?_|refine qaf (qae hj4) ?_|refine pkT (qae hj4) ?_|refine qaa (qae hj4) ?_|refine qal (qae hj4) ?_|refine qam (qae hj4) ?_|refine pkF (qae hj4) ?_|refine qab (qae hj4) ?_|refine qag (qaj hj4) ?_|refine qaf (qaj hj4) ?_|refine pkT (qaj hj4) ?_|refine qaa (qaj hj4) ?_|refine qac hC (pB) ?_|refine qad hS (by kernel_rfl) ?_);conv => whnf)
      rw [hr]
      exact ⟨_,rfl,Wk.refl _⟩
     ·refine qab (qbe hj4) ?_
      conv => whnf
      refine .inl ?_
      conv => whnf
      have eE:V.length = j :=by omega
      rcases hE with ⟨hg1,hg2,hg3⟩ | ⟨hg1,_⟩
      rotate_left
      ·omega
      have hi5:i + 1 ≤ VV.length :=hg2
      by_cases t0:gB (spl 32 (gB (spl 10 s) (i + 1))) 0 = qen
      ·have q0:(gB (spl 32 (gB (spl 10 s) (i + 1))) 0 == [108,105,110,107]) = true :=beq_iff_eq.2 t0
       have q2:(gB (spl 32 (gB (spl 10 s) (i + 1))) 0 == [104,97,110,100]) = false :=beq_eq_false_iff_ne.2 (by rw [t0];decide)
       have nH:¬ isHd s VV i :=fun z => absurd (t0.symm.trans z.1) (by decide)
       have eH:hdF s VV (i + 1) = H :=by rw [hdF,if_neg nH,← eM]
       by_cases l3:j = 3
       ·subst l3
        obtain ⟨x,y,z,hV⟩ : ∃ x y z,V = [x,y,z] :=by
         rcases V with _ | ⟨x,_ | ⟨y,_ | ⟨z,_ | ⟨u,V⟩⟩⟩⟩
         ·cases eE
         ·cases eE
         ·cases eE
         ·exact ⟨x,y,z,rfl⟩
         ·simp at eE
        have nL:isLk s VV i :=⟨t0,by rw [← hg3];exact eE⟩
        have eL:lkF s VV (i + 1) = N ++ [(x,y,z)] :=by rw [lkF,if_pos nL,← eN,← hg3,hV];rfl
        subst hV
        have e2 :=lk_n N (x,y,z) 17
        have d1:decide ((N.length + (0 + 1)) * 24 ≤ 140737488355328) = true :=decide_eq_true (by omega)
        have d2:decide (N.length + (0 + 1) ≤ 9223372036854775807) = true :=decide_eq_true (by omega)
        have d4:decide (N.length = N.length) = true :=decide_eq_true rfl
        have d5 :=qh2 N
        repeat ((first|refine qak (nthP g0) ?_|refine qag ir ?_|refine qaf ir ?_|refine pkT ir ?_|refine qaa ir ?_|refine qag q0 ?_|refine qaf q0 ?_|refine pkT q0 ?_|refine qaa q0 ?_|refine qag (qaq q0) ?_|refine qaf (qaq q0) ?_|refine pkT (qaq q0) ?_|refine qaa (qaq q0) ?_|refine qal q2 ?_|refine qam q2 ?_|refine pkF q2 ?_|refine qab q2 ?_|refine qal (qao q2) ?_|refine qam (qao q2) ?_|refine pkF (qao q2) ?_|refine qab (qao q2) ?_|refine qag d1 ?_|refine qaf d1 ?_|refine pkT d1 ?_|refine qaa d1 ?_|refine qag d2 ?_|refine qaf d2 ?_|refine pkT d2 ?_|refine qaa d2 ?_|refine qag d4 ?_|refine qaf d4 ?_|refine pkT d4 ?_|refine qaa d4 ?_|refine qag d5 ?_|refine qaf d5 ?_|refine pkT d5 ?_|refine qaa d5 ?_|refine qal d5 ?_|refine qam d5 ?_|refine pkF d5 ?_|refine qab d5 ?_|refine qad hS (by kernel_rfl) ?_);conv => whnf)
        exact ⟨(i + 1,lkW (N ++ [(x,y,z)]) 17,(hdW H 27),bL (N.length + 1) ++ bH H.length),⟨hi5,by show St (lkF s VV (i + 1)) (hdF s VV (i + 1)) _ _ _;rw [eL,eH];exact .inr (.inr (.inr (.inl ⟨by simp,sH,rfl,rfl,(by rw [List.length_append];rfl)⟩)))⟩,by show VV.length + 1 - (i + 1) < VV.length + 1 - i;omega,kle rfl,(by refine ⟨rfl,rfl,rfl,rfl,rfl,rfl,30,rfl,?_,?_⟩ <;> repeat' (first|exact trivial|exact rfl|exact wkr rfl|exact wko rfl|exact Nat.zero_le _|exact ⟨_,rfl,WkV.int hi1⟩|exact qcy e2|exact qa6 _ (by decide)|exact qa7 _ (by decide)|exact qba _ _ (by decide)|exact kle rfl|exact bdq|exact mxI rfl|exact mxS rfl|apply And.intro))⟩
       ·have nL:¬ isLk s VV i :=fun z => l3 (by have :=z.2;rw [← hg3] at this;omega)
        have eL:lkF s VV (i + 1) = N :=by rw [lkF,if_neg nL,← eN]
        have q1:((j:Int) == 3) = false :=beq_eq_false_iff_ne.2 fun z => l3 (by omega)
        repeat ((first|refine qak (nthP g0) ?_|refine qag ir ?_|refine qaf ir ?_|refine pkT ir ?_|refine qaa ir ?_|refine qag q0 ?_|refine qaf q0 ?_|refine pkT q0 ?_|refine qaa q0 ?_|refine qag (qaq q0) ?_|refine qaf (qaq q0) ?_|refine pkT (qaq q0) ?_|refine qaa (qaq q0) ?_|refine qal q1 ?_|refine qam q1 ?_|refine pkF q1 ?_|refine qab q1 ?_|refine qal (qao q1) ?_|refine qam (qao q1) ?_|refine pkF (qao q1) ?_|refine qab (qao q1) ?_|refine qal q2 ?_|refine qam q2 ?_|refine pkF q2 ?_|refine qab q2 ?_|refine qal (qao q2) ?_|refine qam (qao q2) ?_|refine pkF (qao q2) ?_|refine qab (qao q2) ?_|refine qad hS (by kernel_rfl) ?_);conv => whnf)
        exact ⟨(i + 1,(lkW N 17),(hdW H 27),bL N.length ++ bH H.length),⟨hi5,by show St (lkF s VV (i + 1)) (hdF s VV (i + 1)) _ _ _;rw [eL,eH];exact .inr (.inr (.inr (.inl ⟨sN,sH,rfl,rfl,rfl⟩)))⟩,by show VV.length + 1 - (i + 1) < VV.length + 1 - i;omega,Nat.le_refl _,(by refine ⟨rfl,rfl,rfl,rfl,rfl,rfl,30,rfl,?_,?_⟩ <;> repeat' (first|exact trivial|exact rfl|exact wkr rfl|exact wko rfl|exact Nat.zero_le _|exact ⟨_,rfl,WkV.int hi1⟩|exact qa6 _ (by decide)|exact qa7 _ (by decide)|exact qba _ _ (by decide)|exact kle rfl|exact bdq|exact mxI rfl|exact mxS rfl|apply And.intro))⟩
      ·have q0:(gB (spl 32 (gB (spl 10 s) (i + 1))) 0 == [108,105,110,107]) = false :=beq_eq_false_iff_ne.2 t0
       have nL:¬ isLk s VV i :=fun z => t0 z.1
       have eL:lkF s VV (i + 1) = N :=by rw [lkF,if_neg nL,← eN]
       by_cases t1:gB (spl 32 (gB (spl 10 s) (i + 1))) 0 = qfb
       ·have q2:(gB (spl 32 (gB (spl 10 s) (i + 1))) 0 == [104,97,110,100]) = true :=beq_iff_eq.2 t1
        by_cases l1:j = 1
        ·subst l1
         obtain ⟨x,hV⟩ : ∃ x,V = [x] :=by
          rcases V with _ | ⟨x,_ | ⟨y,V⟩⟩
          ·cases eE
          ·exact ⟨x,rfl⟩
          ·simp at eE
         have nH:isHd s VV i :=⟨t1,by rw [← hg3];exact eE⟩
         have eH:hdF s VV (i + 1) = H ++ [x] :=by rw [hdF,if_pos nH,← eM,← hg3,hV];rfl
         subst hV
         have e2 :=hd_n H x 27
         have d1:decide ((H.length + (0 + 1)) * 8 ≤ 140737488355328) = true :=decide_eq_true (by omega)
         have d2:decide (H.length + (0 + 1) ≤ 9223372036854775807) = true :=decide_eq_true (by omega)
         have d4:decide (H.length = H.length) = true :=decide_eq_true rfl
         have d5 :=qh3 H
         repeat ((first|refine qak (nthP g0) ?_|refine qag ir ?_|refine qaf ir ?_|refine pkT ir ?_|refine qaa ir ?_|refine qal q0 ?_|refine qam q0 ?_|refine pkF q0 ?_|refine qab q0 ?_|refine qal (qao q0) ?_|refine qam (qao q0) ?_|refine pkF (qao q0) ?_|refine qab (qao q0) ?_|refine qag q2 ?_|refine qaf q2 ?_|refine pkT q2 ?_|refine qaa q2 ?_|refine qag (qaq q2) ?_|refine qaf (qaq q2) ?_|refine pkT (qaq q2) ?_|refine qaa (qaq q2) ?_|refine qag d1 ?_|refine qaf d1 ?_|refine pkT d1 ?_|refine qaa d1 ?_|refine qag d2 ?_|refine qaf d2 ?_|refine pkT d2 ?_|refine qaa d2 ?_|refine qag d4 ?_|refine qaf d4 ?_|refine pkT d4 ?_|refine qaa d4 ?_|refine qag d5 ?_|refine qaf d5 ?_|refine pkT d5 ?_|refine qaa d5 ?_|refine qal d5 ?_|refine qam d5 ?_|refine pkF d5 ?_|refine qab d5 ?_|refine qad hS (by kernel_rfl) ?_);conv => whnf)
         exact ⟨(i + 1,(lkW N 17),hdW (H ++ [x]) 27,bL N.length ++ bH (H.length + 1)),⟨hi5,by show St (lkF s VV (i + 1)) (hdF s VV (i + 1)) _ _ _;rw [eL,eH];exact .inr (.inr (.inr (.inl ⟨sN,by simp,rfl,rfl,(by rw [List.length_append];rfl)⟩)))⟩,by show VV.length + 1 - (i + 1) < VV.length + 1 - i;omega,kle rfl,(by refine ⟨rfl,rfl,rfl,rfl,rfl,rfl,30,rfl,?_,?_⟩ <;> repeat' (first|exact trivial|exact rfl|exact wkr rfl|exact wko rfl|exact Nat.zero_le _|exact ⟨_,rfl,WkV.int hi1⟩|exact qcd e2|exact qa6 _ (by decide)|exact qa7 _ (by decide)|exact qba _ _ (by decide)|exact kle rfl|exact bdq|exact mxI rfl|exact mxS rfl|apply And.intro))⟩
        ·have nH:¬ isHd s VV i :=fun z => l1 (by have :=z.2;rw [← hg3] at this;omega)
         have eH:hdF s VV (i + 1) = H :=by rw [hdF,if_neg nH,← eM]
         have q1:((j:Int) == 1) = false :=beq_eq_false_iff_ne.2 fun z => l1 (by omega)
         repeat ((first|refine qak (nthP g0) ?_|refine qag ir ?_|refine qaf ir ?_|refine pkT ir ?_|refine qaa ir ?_|refine qal q0 ?_|refine qam q0 ?_|refine pkF q0 ?_|refine qab q0 ?_|refine qal (qao q0) ?_|refine qam (qao q0) ?_|refine pkF (qao q0) ?_|refine qab (qao q0) ?_|refine qag q2 ?_|refine qaf q2 ?_|refine pkT q2 ?_|refine qaa q2 ?_|refine qag (qaq q2) ?_|refine qaf (qaq q2) ?_|refine pkT (qaq q2) ?_|refine qaa (qaq q2) ?_|refine qal q1 ?_|refine qam q1 ?_|refine pkF q1 ?_|refine qab q1 ?_|refine qal (qao q1) ?_|refine qam (qao q1) ?_|refine pkF (qao q1) ?_|refine qab (qao q1) ?_|refine qad hS (by kernel_rfl) ?_);conv => whnf)
         exact ⟨(i + 1,(lkW N 17),(hdW H 27),bL N.length ++ bH H.length),⟨hi5,by show St (lkF s VV (i + 1)) (hdF s VV (i + 1)) _ _ _;rw [eL,eH];exact .inr (.inr (.inr (.inl ⟨sN,sH,rfl,rfl,rfl⟩)))⟩,by show VV.length + 1 - (i + 1) < VV.length + 1 - i;omega,Nat.le_refl _,(by refine ⟨rfl,rfl,rfl,rfl,rfl,rfl,30,rfl,?_,?_⟩ <;> repeat' (first|exact trivial|exact rfl|exact wkr rfl|exact wko rfl|exact Nat.zero_le _|exact ⟨_,rfl,WkV.int hi1⟩|exact qa6 _ (by decide)|exact qa7 _ (by decide)|exact qba _ _ (by decide)|exact kle rfl|exact bdq|exact mxI rfl|exact mxS rfl|apply And.intro))⟩
       ·have q2:(gB (spl 32 (gB (spl 10 s) (i + 1))) 0 == [104,97,110,100]) = false :=beq_eq_false_iff_ne.2 t1
        have nH:¬ isHd s VV i :=fun z => t1 z.1
        have eH:hdF s VV (i + 1) = H :=by rw [hdF,if_neg nH,← eM]
        repeat ((first|refine qak (nthP g0) ?_|refine qag ir ?_|refine qaf ir ?_|refine pkT ir ?_|refine qaa ir ?_|refine qal q0 ?_|refine qam q0 ?_|refine pkF q0 ?_|refine qab q0 ?_|refine qal (qao q0) ?_|refine qam (qao q0) ?_|refine pkF (qao q0) ?_|refine qab (qao q0) ?_|refine qal q2 ?_|refine qam q2 ?_|refine pkF q2 ?_|refine qab q2 ?_|refine qal (qao q2) ?_|refine qam (qao q2) ?_|refine pkF (qao q2) ?_|refine qab (qao q2) ?_|refine qad hS (by kernel_rfl) ?_);conv => whnf)
        exact ⟨(i + 1,(lkW N 17),(hdW H 27),bL N.length ++ bH H.length),⟨hi5,by show St (lkF s VV (i + 1)) (hdF s VV (i + 1)) _ _ _;rw [eL,eH];exact .inr (.inr (.inr (.inl ⟨sN,sH,rfl,rfl,rfl⟩)))⟩,by show VV.length + 1 - (i + 1) < VV.length + 1 - i;omega,Nat.le_refl _,(by refine ⟨rfl,rfl,rfl,rfl,rfl,rfl,30,rfl,?_,?_⟩ <;> repeat' (first|exact trivial|exact rfl|exact wkr rfl|exact wko rfl|exact Nat.zero_le _|exact ⟨_,rfl,WkV.int hi1⟩|exact qa6 _ (by decide)|exact qa7 _ (by decide)|exact qba _ _ (by decide)|exact kle rfl|exact bdq|exact mxI rfl|exact mxS rfl|apply And.intro))⟩
  ·have c1:decide (Int.ofNat (i + 1) < IntKind.i64.wrap (((spl 10 s).length:Int) - 2)) = false :=decide_eq_false (by rw [wR];simp only [Int.ofNat_eq_natCast];omega)
   have st:St N H (lkW N 17) (hdW H 27) (bL N.length ++ bH H.length) :=.inr (.inr (.inr (.inl ⟨sN,sH,rfl,rfl,rfl⟩)))
   have pP :=qeq hok (by omega) (by omega) st
   rcases hend with ⟨hl9,hc⟩ | ⟨hl9,_⟩
   rotate_left
   ·omega
   have hiE:i = VV.length :=by omega
   rw [hiE] at eN eM
   rw [← eN,← eM] at hc
   refine qab (c1) ?_
   conv => whnf
   refine .inl ?_
   conv => whnf
   rcases hc with ⟨hc,hr⟩ | ⟨hc,hr⟩
   ·have te:(prtB N H != s) = false :=by rw [bne,beq_iff_eq.2 hc];rfl
    repeat ((first|refine qal te ?_|refine qam te ?_|refine pkF te ?_|refine qab te ?_|refine qac hC (pP) ?_|refine qad hS (by kernel_rfl) ?_);conv => whnf)
    rw [hr]
    exact ⟨_,rfl,qpi st⟩
   ·have te:(prtB N H != s) = true :=by rw [bne,beq_eq_false_iff_ne.2 hc];rfl
    repeat ((first|refine qag te ?_|refine qaf te ?_|refine pkT te ?_|refine qaa te ?_|refine qac hC (pP) ?_|refine qad hS (by kernel_rfl) ?_);conv => whnf)
    rw [hr]
    exact ⟨_,rfl,Wk.refl _⟩
 ·obtain ⟨sN,sH,rfl,rfl,rfl⟩ :=hst
  obtain rfl:K = 30 :=hK
  conv => whnf
  by_cases him:i < (spl 10 s).length - 3
  ·have c1:decide (Int.ofNat (i + 1) < IntKind.i64.wrap (((spl 10 s).length:Int) - 2)) = true :=decide_eq_true (by rw [wR];simp only [Int.ofNat_eq_natCast];omega)
   have hi1:IntKind.i64.wrap (Int.ofNat (i + 1) + 1) = Int.ofNat (i + 1 + 1) :=qaz (m :=i + 1 + 1) (by omega)
   have hil:i + 1 < (spl 10 s).length :=by omega
   have gR:nth (stA (spl 10 s)) ((i + 1) * 1) = some (.str (gB (spl 10 s) (i + 1))) :=qa9 hil
   have hgl :=qk6 10 s (i + 1)
   have pW :=qcw (gB (spl 10 s) (i + 1)) 32 (by omega)
   have lW :=qa1 (spl 32 (gB (spl 10 s) (i + 1)))
   have hwl :=qfd 32 (gB (spl 10 s) (i + 1))
   have hw0:0 < (spl 32 (gB (spl 10 s) (i + 1))).length :=by rw [qc9];omega
   have ir:inR 0 (spl 32 (gB (spl 10 s) (i + 1))).length = true :=qaj (i :=0) hw0
   have g0:nth (stA (spl 32 (gB (spl 10 s) (i + 1)))) (0:Int).toNat = some (.str (gB (spl 32 (gB (spl 10 s) (i + 1))) 0)) :=qa9 (i :=0) hw0
   obtain ⟨V,hV9,hE⟩ :=qku hrow hend him hi
   have lV :=qav (zl V)
   repeat ((first|refine qak (nthP gR) ?_|refine qag c1 ?_|refine qaf c1 ?_|refine pkT c1 ?_|refine qaa c1 ?_|refine qag (qaj hil) ?_|refine qaf (qaj hil) ?_|refine pkT (qaj hil) ?_|refine qaa (qaj hil) ?_|refine qac hC (pW) ?_|refine qad hS (by kernel_rfl) ?_);conv => whnf)
   refine qax hE0 hS (A :=Nat × AV × List AObj) [0,2,3,4,5,6,7] (fun (j,n,_) => [(8,n),(9,nv (j + 1))]) (fun _ => []) (fun a => a.2.2) (fun (j,n,ux) => j ≤ V.length ∧ (j = 0 ∧ n = .nils ∧ ux = [] ∨ 0 < j ∧ n = nuW V j 30 ∧ ux = [.chain j 1 3])) (fun (j,_,_) => V.length - j) (0,.nils,[]) (kle rfl) rfl (by refine ⟨rfl,rfl,rfl,rfl,rfl,rfl,30,rfl,?_,?_⟩ <;> repeat' (first|exact trivial|exact rfl|exact wkr rfl|exact wko rfl|exact Nat.zero_le _|exact qa6 _ (by decide)|exact qa7 _ (by decide)|exact qba _ _ (by decide)|exact kle rfl|exact bdq|exact mxI rfl|exact mxS rfl|apply And.intro)) ⟨Nat.zero_le _,.inl ⟨rfl,rfl,rfl⟩⟩ ?_
   rintro ⟨j,nn,ux⟩ ⟨hj,hn⟩ K2 hK2
   have hj:j ≤ V.length :=hj
   have lVj :=qav (zl (V.take j))
   refine Or.elim hn (fun hn => ?_) fun hn => ?_
   ·obtain ⟨rfl,rfl,rfl⟩ :=hn
    obtain rfl:K2 = 30 :=hK2
    conv => whnf
    by_cases hj3:0 < V.length
    ·have hj4:0 + 1 < (spl 32 (gB (spl 10 s) (i + 1))).length :=by omega
     have hj1:IntKind.i64.wrap (Int.ofNat (0 + 1) + 1) = Int.ofNat (0 + 1 + 1) :=qaz (m :=0 + 1 + 1) (by omega)
     have gI:nth (stA (spl 32 (gB (spl 10 s) (i + 1)))) ((0 + 1) * 1) = some (.str (dec (gn V 0))) :=by rw [qa9 hj4,(hV9 0 hj3).2]
     have pN :=qdz (hV9 0 hj3).1
     have nn:decide (Int.ofNat (gn V 0) < 0) = false :=decide_eq_false (Int.not_lt.2 (Int.natCast_nonneg _))
     have e2 :=nu_1 V 30 hj3
     repeat ((first|refine qak (nthP gI) ?_|refine qag (qae hj4) ?_|refine qaf (qae hj4) ?_|refine pkT (qae hj4) ?_|refine qaa (qae hj4) ?_|refine qal (qae hj4) ?_|refine qam (qae hj4) ?_|refine pkF (qae hj4) ?_|refine qab (qae hj4) ?_|refine qag (qaj hj4) ?_|refine qaf (qaj hj4) ?_|refine pkT (qaj hj4) ?_|refine qaa (qaj hj4) ?_|refine qal nn ?_|refine qam nn ?_|refine pkF nn ?_|refine qab nn ?_|refine qac hC (pN) ?_|refine qad hS (by kernel_rfl) ?_);conv => whnf)
     exact ⟨(1,nuW V 1 30,[.chain 1 1 3]),⟨hj3,.inr ⟨Nat.zero_lt_one,rfl,rfl⟩⟩,by show V.length - 1 < V.length - 0;omega,kle rfl,(by refine ⟨rfl,rfl,rfl,rfl,rfl,rfl,31,rfl,?_,?_⟩ <;> repeat' (first|exact trivial|exact rfl|exact wkr rfl|exact wko rfl|exact Nat.zero_le _|exact ⟨_,rfl,WkV.int hj1⟩|exact ⟨_,rfl,WkV.eq e2⟩|exact qa6 _ (by decide)|exact qa7 _ (by decide)|exact qba _ _ (by decide)|exact kle rfl|exact bdq|exact mxI rfl|exact mxS rfl|apply And.intro))⟩
    ·have hjE:V.length = 0 :=by omega
     by_cases hj4:0 + 1 < (spl 32 (gB (spl 10 s) (i + 1))).length
     ·rcases hE with ⟨hg1,_⟩ | ⟨_,hr,pB⟩
      ·omega
      rw [hjE] at pB
      have gI:nth (stA (spl 32 (gB (spl 10 s) (i + 1)))) ((0 + 1) * 1) = some (.str (gB (spl 32 (gB (spl 10 s) (i + 1))) (0 + 1))) :=qa9 hj4
      repeat ((first|refine qak (nthP gI) ?_|refine qag (qae hj4) ?_|refine qaf (qae hj4) ?_|refine pkT (qae hj4) ?_|refine qaa (qae hj4) ?_|refine qal (qae hj4) ?_|refine qam (qae hj4) ?_|refine pkF (qae hj4) ?_|refine qab (qae hj4) ?_|refine qag (qaj hj4) ?_|refine qaf (qaj hj4) ?_|refine pkT (qaj hj4) ?_|refine qaa (qaj hj4) ?_|refine qac hC (pB) ?_|refine qad hS (by kernel_rfl) ?_);conv => whnf)
      rw [hr]
      exact ⟨_,rfl,Wk.refl _⟩
     ·refine qab (qbe hj4) ?_
      conv => whnf
      refine .inl ?_
      conv => whnf
      have eE:V.length = 0 :=by omega
      rcases hE with ⟨hg1,hg2,hg3⟩ | ⟨hg1,_⟩
      rotate_left
      ·omega
      have hi5:i + 1 ≤ VV.length :=hg2
      by_cases t0:gB (spl 32 (gB (spl 10 s) (i + 1))) 0 = qen
      ·have q0:(gB (spl 32 (gB (spl 10 s) (i + 1))) 0 == [108,105,110,107]) = true :=beq_iff_eq.2 t0
       have q2:(gB (spl 32 (gB (spl 10 s) (i + 1))) 0 == [104,97,110,100]) = false :=beq_eq_false_iff_ne.2 (by rw [t0];decide)
       have nH:¬ isHd s VV i :=fun z => absurd (t0.symm.trans z.1) (by decide)
       have eH:hdF s VV (i + 1) = H :=by rw [hdF,if_neg nH,← eM]
       have nL:¬ isLk s VV i :=fun z => by have :=z.2;rw [← hg3] at this;omega
       have eL:lkF s VV (i + 1) = N :=by rw [lkF,if_neg nL,← eN]
       repeat ((first|refine qak (nthP g0) ?_|refine qag ir ?_|refine qaf ir ?_|refine pkT ir ?_|refine qaa ir ?_|refine qag q0 ?_|refine qaf q0 ?_|refine pkT q0 ?_|refine qaa q0 ?_|refine qag (qaq q0) ?_|refine qaf (qaq q0) ?_|refine pkT (qaq q0) ?_|refine qaa (qaq q0) ?_|refine qal q2 ?_|refine qam q2 ?_|refine pkF q2 ?_|refine qab q2 ?_|refine qal (qao q2) ?_|refine qam (qao q2) ?_|refine pkF (qao q2) ?_|refine qab (qao q2) ?_|refine qad hS (by kernel_rfl) ?_);conv => whnf)
       exact ⟨(i + 1,(lkW N 27),(hdW H 9),bH H.length ++ bL N.length),⟨hi5,by show St (lkF s VV (i + 1)) (hdF s VV (i + 1)) _ _ _;rw [eL,eH];exact .inr (.inr (.inr (.inr ⟨sN,sH,rfl,rfl,rfl⟩)))⟩,by show VV.length + 1 - (i + 1) < VV.length + 1 - i;omega,Nat.le_refl _,(by refine ⟨rfl,rfl,rfl,rfl,rfl,rfl,30,rfl,?_,?_⟩ <;> repeat' (first|exact trivial|exact rfl|exact wkr rfl|exact wko rfl|exact Nat.zero_le _|exact ⟨_,rfl,WkV.int hi1⟩|exact qa6 _ (by decide)|exact qa7 _ (by decide)|exact qba _ _ (by decide)|exact kle rfl|exact bdq|exact mxI rfl|exact mxS rfl|apply And.intro))⟩
      ·have q0:(gB (spl 32 (gB (spl 10 s) (i + 1))) 0 == [108,105,110,107]) = false :=beq_eq_false_iff_ne.2 t0
       have nL:¬ isLk s VV i :=fun z => t0 z.1
       have eL:lkF s VV (i + 1) = N :=by rw [lkF,if_neg nL,← eN]
       by_cases t1:gB (spl 32 (gB (spl 10 s) (i + 1))) 0 = qfb
       ·have q2:(gB (spl 32 (gB (spl 10 s) (i + 1))) 0 == [104,97,110,100]) = true :=beq_iff_eq.2 t1
        have nH:¬ isHd s VV i :=fun z => by have :=z.2;rw [← hg3] at this;omega
        have eH:hdF s VV (i + 1) = H :=by rw [hdF,if_neg nH,← eM]
        repeat ((first|refine qak (nthP g0) ?_|refine qag ir ?_|refine qaf ir ?_|refine pkT ir ?_|refine qaa ir ?_|refine qal q0 ?_|refine qam q0 ?_|refine pkF q0 ?_|refine qab q0 ?_|refine qal (qao q0) ?_|refine qam (qao q0) ?_|refine pkF (qao q0) ?_|refine qab (qao q0) ?_|refine qag q2 ?_|refine qaf q2 ?_|refine pkT q2 ?_|refine qaa q2 ?_|refine qag (qaq q2) ?_|refine qaf (qaq q2) ?_|refine pkT (qaq q2) ?_|refine qaa (qaq q2) ?_|refine qad hS (by kernel_rfl) ?_);conv => whnf)
        exact ⟨(i + 1,(lkW N 27),(hdW H 9),bH H.length ++ bL N.length),⟨hi5,by show St (lkF s VV (i + 1)) (hdF s VV (i + 1)) _ _ _;rw [eL,eH];exact .inr (.inr (.inr (.inr ⟨sN,sH,rfl,rfl,rfl⟩)))⟩,by show VV.length + 1 - (i + 1) < VV.length + 1 - i;omega,Nat.le_refl _,(by refine ⟨rfl,rfl,rfl,rfl,rfl,rfl,30,rfl,?_,?_⟩ <;> repeat' (first|exact trivial|exact rfl|exact wkr rfl|exact wko rfl|exact Nat.zero_le _|exact ⟨_,rfl,WkV.int hi1⟩|exact qa6 _ (by decide)|exact qa7 _ (by decide)|exact qba _ _ (by decide)|exact kle rfl|exact bdq|exact mxI rfl|exact mxS rfl|apply And.intro))⟩
       ·have q2:(gB (spl 32 (gB (spl 10 s) (i + 1))) 0 == [104,97,110,100]) = false :=beq_eq_false_iff_ne.2 t1
        have nH:¬ isHd s VV i :=fun z => t1 z.1
        have eH:hdF s VV (i + 1) = H :=by rw [hdF,if_neg nH,← eM]
        repeat ((first|refine qak (nthP g0) ?_|refine qag ir ?_|refine qaf ir ?_|refine pkT ir ?_|refine qaa ir ?_|refine qal q0 ?_|refine qam q0 ?_|refine pkF q0 ?_|refine qab q0 ?_|refine qal (qao q0) ?_|refine qam (qao q0) ?_|refine pkF (qao q0) ?_|refine qab (qao q0) ?_|refine qal q2 ?_|refine qam q2 ?_|refine pkF q2 ?_|refine qab q2 ?_|refine qal (qao q2) ?_|refine qam (qao q2) ?_|refine pkF (qao q2) ?_|refine qab (qao q2) ?_|refine qad hS (by kernel_rfl) ?_);conv => whnf)
        exact ⟨(i + 1,(lkW N 27),(hdW H 9),bH H.length ++ bL N.length),⟨hi5,by show St (lkF s VV (i + 1)) (hdF s VV (i + 1)) _ _ _;rw [eL,eH];exact .inr (.inr (.inr (.inr ⟨sN,sH,rfl,rfl,rfl⟩)))⟩,by show VV.length + 1 - (i + 1) < VV.length + 1 - i;omega,Nat.le_refl _,(by refine ⟨rfl,rfl,rfl,rfl,rfl,rfl,30,rfl,?_,?_⟩ <;> repeat' (first|exact trivial|exact rfl|exact wkr rfl|exact wko rfl|exact Nat.zero_le _|exact ⟨_,rfl,WkV.int hi1⟩|exact qa6 _ (by decide)|exact qa7 _ (by decide)|exact qba _ _ (by decide)|exact kle rfl|exact bdq|exact mxI rfl|exact mxS rfl|apply And.intro))⟩
   ·obtain ⟨hj2,rfl,rfl⟩ :=hn
    obtain rfl:K2 = 31 :=hK2
    conv => whnf
    by_cases hj3:j < V.length
    ·have hj4:j + 1 < (spl 32 (gB (spl 10 s) (i + 1))).length :=by omega
     have hj1:IntKind.i64.wrap (Int.ofNat (j + 1) + 1) = Int.ofNat (j + 1 + 1) :=qaz (m :=j + 1 + 1) (by omega)
     have gI:nth (stA (spl 32 (gB (spl 10 s) (i + 1)))) ((j + 1) * 1) = some (.str (dec (gn V j))) :=by rw [qa9 hj4,(hV9 j hj3).2]
     have pN :=qdz (hV9 j hj3).1
     have nn:decide (Int.ofNat (gn V j) < 0) = false :=decide_eq_false (Int.not_lt.2 (Int.natCast_nonneg _))
     have e2 :=nu_n V 30 hj3
     have d1:decide ((j + (0 + 1)) * 8 ≤ 140737488355328) = true :=decide_eq_true (by omega)
     have d2:decide (j + (0 + 1) ≤ 9223372036854775807) = true :=decide_eq_true (by omega)
     have d4:decide (j = j) = true :=decide_eq_true rfl
     have d5 :=qfz V hj
     repeat ((first|refine qak (nthP gI) ?_|refine qag (qae hj4) ?_|refine qaf (qae hj4) ?_|refine pkT (qae hj4) ?_|refine qaa (qae hj4) ?_|refine qal (qae hj4) ?_|refine qam (qae hj4) ?_|refine pkF (qae hj4) ?_|refine qab (qae hj4) ?_|refine qag (qaj hj4) ?_|refine qaf (qaj hj4) ?_|refine pkT (qaj hj4) ?_|refine qaa (qaj hj4) ?_|refine qal nn ?_|refine qam nn ?_|refine pkF nn ?_|refine qab nn ?_|refine qag d1 ?_|refine qaf d1 ?_|refine pkT d1 ?_|refine qaa d1 ?_|refine qag d2 ?_|refine qaf d2 ?_|refine pkT d2 ?_|refine qaa d2 ?_|refine qag d4 ?_|refine qaf d4 ?_|refine pkT d4 ?_|refine qaa d4 ?_|refine qag d5 ?_|refine qaf d5 ?_|refine pkT d5 ?_|refine qaa d5 ?_|refine qal d5 ?_|refine qam d5 ?_|refine pkF d5 ?_|refine qab d5 ?_|refine qac hC (pN) ?_|refine qad hS (by kernel_rfl) ?_);conv => whnf)
     exact ⟨(j + 1,nuW V (j + 1) 30,[.chain (j + 1) 1 3]),⟨hj3,.inr ⟨Nat.succ_pos _,rfl,rfl⟩⟩,by show V.length - (j + 1) < V.length - j;omega,kle rfl,(by refine ⟨rfl,rfl,rfl,rfl,rfl,rfl,31,rfl,?_,?_⟩ <;> repeat' (first|exact trivial|exact rfl|exact wkr rfl|exact wko rfl|exact Nat.zero_le _|exact ⟨_,rfl,WkV.int hj1⟩|exact ⟨_,rfl,WkV.eq e2⟩|exact qa6 _ (by decide)|exact qa7 _ (by decide)|exact qba _ _ (by decide)|exact kle rfl|exact bdq|exact mxI rfl|exact mxS rfl|apply And.intro))⟩
    ·have hjE:V.length = j :=by omega
     by_cases hj4:j + 1 < (spl 32 (gB (spl 10 s) (i + 1))).length
     ·rcases hE with ⟨hg1,_⟩ | ⟨_,hr,pB⟩
      ·omega
      rw [hjE] at pB
      have gI:nth (stA (spl 32 (gB (spl 10 s) (i + 1)))) ((j + 1) * 1) = some (.str (gB (spl 32 (gB (spl 10 s) (i + 1))) (j + 1))) :=qa9 hj4
      repeat ((first|refine qak (nthP gI) ?_|refine qag (qae hj4) ?_|refine qaf (qae hj4) ?_|refine pkT (qae hj4) ?_|refine qaa (qae hj4) ?_|refine qal (qae hj4) ?_|refine qam (qae hj4) ?_|refine pkF (qae hj4) ?_|refine qab (qae hj4) ?_|refine qag (qaj hj4) ?_|refine qaf (qaj hj4) ?_|refine pkT (qaj hj4) ?_|refine qaa (qaj hj4) ?_|refine qac hC (pB) ?_|refine qad hS (by kernel_rfl) ?_);conv => whnf)
      rw [hr]
      exact ⟨_,rfl,Wk.refl _⟩
     ·refine qab (qbe hj4) ?_
      conv => whnf
      refine .inl ?_
      conv => whnf
      have eE:V.length = j :=by omega
      rcases hE with ⟨hg1,hg2,hg3⟩ | ⟨hg1,_⟩
      rotate_left
      ·omega
      have hi5:i + 1 ≤ VV.length :=hg2
      by_cases t0:gB (spl 32 (gB (spl 10 s) (i + 1))) 0 = qen
      ·have q0:(gB (spl 32 (gB (spl 10 s) (i + 1))) 0 == [108,105,110,107]) = true :=beq_iff_eq.2 t0
       have q2:(gB (spl 32 (gB (spl 10 s) (i + 1))) 0 == [104,97,110,100]) = false :=beq_eq_false_iff_ne.2 (by rw [t0];decide)
       have nH:¬ isHd s VV i :=fun z => absurd (t0.symm.trans z.1) (by decide)
       have eH:hdF s VV (i + 1) = H :=by rw [hdF,if_neg nH,← eM]
       by_cases l3:j = 3
       ·subst l3
        obtain ⟨x,y,z,hV⟩ : ∃ x y z,V = [x,y,z] :=by
         rcases V with _ | ⟨x,_ | ⟨y,_ | ⟨z,_ | ⟨u,V⟩⟩⟩⟩
         ·cases eE
         ·cases eE
         ·cases eE
         ·exact ⟨x,y,z,rfl⟩
         ·simp at eE
        have nL:isLk s VV i :=⟨t0,by rw [← hg3];exact eE⟩
        have eL:lkF s VV (i + 1) = N ++ [(x,y,z)] :=by rw [lkF,if_pos nL,← eN,← hg3,hV];rfl
        subst hV
        have e2 :=lk_n N (x,y,z) 27
        have d1:decide ((N.length + (0 + 1)) * 24 ≤ 140737488355328) = true :=decide_eq_true (by omega)
        have d2:decide (N.length + (0 + 1) ≤ 9223372036854775807) = true :=decide_eq_true (by omega)
        have d4:decide (N.length = N.length) = true :=decide_eq_true rfl
        have d5 :=qh2 N
        repeat ((first|refine qak (nthP g0) ?_|refine qag ir ?_|refine qaf ir ?_|refine pkT ir ?_|refine qaa ir ?_|refine qag q0 ?_|refine qaf q0 ?_|refine pkT q0 ?_|refine qaa q0 ?_|refine qag (qaq q0) ?_|refine qaf (qaq q0) ?_|refine pkT (qaq q0) ?_|refine qaa (qaq q0) ?_|refine qal q2 ?_|refine qam q2 ?_|refine pkF q2 ?_|refine qab q2 ?_|refine qal (qao q2) ?_|refine qam (qao q2) ?_|refine pkF (qao q2) ?_|refine qab (qao q2) ?_|refine qag d1 ?_|refine qaf d1 ?_|refine pkT d1 ?_|refine qaa d1 ?_|refine qag d2 ?_|refine qaf d2 ?_|refine pkT d2 ?_|refine qaa d2 ?_|refine qag d4 ?_|refine qaf d4 ?_|refine pkT d4 ?_|refine qaa d4 ?_|refine qag d5 ?_|refine qaf d5 ?_|refine pkT d5 ?_|refine qaa d5 ?_|refine qal d5 ?_|refine qam d5 ?_|refine pkF d5 ?_|refine qab d5 ?_|refine qad hS (by kernel_rfl) ?_);conv => whnf)
        exact ⟨(i + 1,lkW (N ++ [(x,y,z)]) 27,(hdW H 9),bH H.length ++ bL (N.length + 1)),⟨hi5,by show St (lkF s VV (i + 1)) (hdF s VV (i + 1)) _ _ _;rw [eL,eH];exact .inr (.inr (.inr (.inr ⟨by simp,sH,rfl,rfl,(by rw [List.length_append];rfl)⟩)))⟩,by show VV.length + 1 - (i + 1) < VV.length + 1 - i;omega,kle rfl,(by refine ⟨rfl,rfl,rfl,rfl,rfl,rfl,30,rfl,?_,?_⟩ <;> repeat' (first|exact trivial|exact rfl|exact wkr rfl|exact wko rfl|exact Nat.zero_le _|exact ⟨_,rfl,WkV.int hi1⟩|exact qcy e2|exact qa6 _ (by decide)|exact qa7 _ (by decide)|exact qba _ _ (by decide)|exact kle rfl|exact bdq|exact mxI rfl|exact mxS rfl|apply And.intro))⟩
       ·have nL:¬ isLk s VV i :=fun z => l3 (by have :=z.2;rw [← hg3] at this;omega)
        have eL:lkF s VV (i + 1) = N :=by rw [lkF,if_neg nL,← eN]
        have q1:((j:Int) == 3) = false :=beq_eq_false_iff_ne.2 fun z => l3 (by omega)
        repeat ((first|refine qak (nthP g0) ?_|refine qag ir ?_|refine qaf ir ?_|refine pkT ir ?_|refine qaa ir ?_|refine qag q0 ?_|refine qaf q0 ?_|refine pkT q0 ?_|refine qaa q0 ?_|refine qag (qaq q0) ?_|refine qaf (qaq q0) ?_|refine pkT (qaq q0) ?_|refine qaa (qaq q0) ?_|refine qal q1 ?_|refine qam q1 ?_|refine pkF q1 ?_|refine qab q1 ?_|refine qal (qao q1) ?_|refine qam (qao q1) ?_|refine pkF (qao q1) ?_|refine qab (qao q1) ?_|refine qal q2 ?_|refine qam q2 ?_|refine pkF q2 ?_|refine qab q2 ?_|refine qal (qao q2) ?_|refine qam (qao q2) ?_|refine pkF (qao q2) ?_|refine qab (qao q2) ?_|refine qad hS (by kernel_rfl) ?_);conv => whnf)
        exact ⟨(i + 1,(lkW N 27),(hdW H 9),bH H.length ++ bL N.length),⟨hi5,by show St (lkF s VV (i + 1)) (hdF s VV (i + 1)) _ _ _;rw [eL,eH];exact .inr (.inr (.inr (.inr ⟨sN,sH,rfl,rfl,rfl⟩)))⟩,by show VV.length + 1 - (i + 1) < VV.length + 1 - i;omega,Nat.le_refl _,(by refine ⟨rfl,rfl,rfl,rfl,rfl,rfl,30,rfl,?_,?_⟩ <;> repeat' (first|exact trivial|exact rfl|exact wkr rfl|exact wko rfl|exact Nat.zero_le _|exact ⟨_,rfl,WkV.int hi1⟩|exact qa6 _ (by decide)|exact qa7 _ (by decide)|exact qba _ _ (by decide)|exact kle rfl|exact bdq|exact mxI rfl|exact mxS rfl|apply And.intro))⟩
      ·have q0:(gB (spl 32 (gB (spl 10 s) (i + 1))) 0 == [108,105,110,107]) = false :=beq_eq_false_iff_ne.2 t0
       have nL:¬ isLk s VV i :=fun z => t0 z.1
       have eL:lkF s VV (i + 1) = N :=by rw [lkF,if_neg nL,← eN]
       by_cases t1:gB (spl 32 (gB (spl 10 s) (i + 1))) 0 = qfb
       ·have q2:(gB (spl 32 (gB (spl 10 s) (i + 1))) 0 == [104,97,110,100]) = true :=beq_iff_eq.2 t1
        by_cases l1:j = 1
        ·subst l1
         obtain ⟨x,hV⟩ : ∃ x,V = [x] :=by
          rcases V with _ | ⟨x,_ | ⟨y,V⟩⟩
          ·cases eE
          ·exact ⟨x,rfl⟩
          ·simp at eE
         have nH:isHd s VV i :=⟨t1,by rw [← hg3];exact eE⟩
         have eH:hdF s VV (i + 1) = H ++ [x] :=by rw [hdF,if_pos nH,← eM,← hg3,hV];rfl
         subst hV
         have e2 :=hd_n H x 9
         have d1:decide ((H.length + (0 + 1)) * 8 ≤ 140737488355328) = true :=decide_eq_true (by omega)
         have d2:decide (H.length + (0 + 1) ≤ 9223372036854775807) = true :=decide_eq_true (by omega)
         have d4:decide (H.length = H.length) = true :=decide_eq_true rfl
         have d5 :=qh3 H
         repeat ((first|refine qak (nthP g0) ?_|refine qag ir ?_|refine qaf ir ?_|refine pkT ir ?_|refine qaa ir ?_|refine qal q0 ?_|refine qam q0 ?_|refine pkF q0 ?_|refine qab q0 ?_|refine qal (qao q0) ?_|refine qam (qao q0) ?_|refine pkF (qao q0) ?_|refine qab (qao q0) ?_|refine qag q2 ?_|refine qaf q2 ?_|refine pkT q2 ?_|refine qaa q2 ?_|refine qag (qaq q2) ?_|refine qaf (qaq q2) ?_|refine pkT (qaq q2) ?_|refine qaa (qaq q2) ?_|refine qag d1 ?_|refine qaf d1 ?_|refine pkT d1 ?_|refine qaa d1 ?_|refine qag d2 ?_|refine qaf d2 ?_|refine pkT d2 ?_|refine qaa d2 ?_|refine qag d4 ?_|refine qaf d4 ?_|refine pkT d4 ?_|refine qaa d4 ?_|refine qag d5 ?_|refine qaf d5 ?_|refine pkT d5 ?_|refine qaa d5 ?_|refine qal d5 ?_|refine qam d5 ?_|refine pkF d5 ?_|refine qab d5 ?_|refine qad hS (by kernel_rfl) ?_);conv => whnf)
         exact ⟨(i + 1,(lkW N 27),hdW (H ++ [x]) 9,bH (H.length + 1) ++ bL N.length),⟨hi5,by show St (lkF s VV (i + 1)) (hdF s VV (i + 1)) _ _ _;rw [eL,eH];exact .inr (.inr (.inr (.inr ⟨sN,by simp,rfl,rfl,(by rw [List.length_append];rfl)⟩)))⟩,by show VV.length + 1 - (i + 1) < VV.length + 1 - i;omega,kle rfl,(by refine ⟨rfl,rfl,rfl,rfl,rfl,rfl,30,rfl,?_,?_⟩ <;> repeat' (first|exact trivial|exact rfl|exact wkr rfl|exact wko rfl|exact Nat.zero_le _|exact ⟨_,rfl,WkV.int hi1⟩|exact qcd e2|exact qa6 _ (by decide)|exact qa7 _ (by decide)|exact qba _ _ (by decide)|exact kle rfl|exact bdq|exact mxI rfl|exact mxS rfl|apply And.intro))⟩
        ·have nH:¬ isHd s VV i :=fun z => l1 (by have :=z.2;rw [← hg3] at this;omega)
         have eH:hdF s VV (i + 1) = H :=by rw [hdF,if_neg nH,← eM]
         have q1:((j:Int) == 1) = false :=beq_eq_false_iff_ne.2 fun z => l1 (by omega)
         repeat ((first|refine qak (nthP g0) ?_|refine qag ir ?_|refine qaf ir ?_|refine pkT ir ?_|refine qaa ir ?_|refine qal q0 ?_|refine qam q0 ?_|refine pkF q0 ?_|refine qab q0 ?_|refine qal (qao q0) ?_|refine qam (qao q0) ?_|refine pkF (qao q0) ?_|refine qab (qao q0) ?_|refine qag q2 ?_|refine qaf q2 ?_|refine pkT q2 ?_|refine qaa q2 ?_|refine qag (qaq q2) ?_|refine qaf (qaq q2) ?_|refine pkT (qaq q2) ?_|refine qaa (qaq q2) ?_|refine qal q1 ?_|refine qam q1 ?_|refine pkF q1 ?_|refine qab q1 ?_|refine qal (qao q1) ?_|refine qam (qao q1) ?_|refine pkF (qao q1) ?_|refine qab (qao q1) ?_|refine qad hS (by kernel_rfl) ?_);conv => whnf)
         exact ⟨(i + 1,(lkW N 27),(hdW H 9),bH H.length ++ bL N.length),⟨hi5,by show St (lkF s VV (i + 1)) (hdF s VV (i + 1)) _ _ _;rw [eL,eH];exact .inr (.inr (.inr (.inr ⟨sN,sH,rfl,rfl,rfl⟩)))⟩,by show VV.length + 1 - (i + 1) < VV.length + 1 - i;omega,Nat.le_refl _,(by refine ⟨rfl,rfl,rfl,rfl,rfl,rfl,30,rfl,?_,?_⟩ <;> repeat' (first|exact trivial|exact rfl|exact wkr rfl|exact wko rfl|exact Nat.zero_le _|exact ⟨_,rfl,WkV.int hi1⟩|exact qa6 _ (by decide)|exact qa7 _ (by decide)|exact qba _ _ (by decide)|exact kle rfl|exact bdq|exact mxI rfl|exact mxS rfl|apply And.intro))⟩
       ·have q2:(gB (spl 32 (gB (spl 10 s) (i + 1))) 0 == [104,97,110,100]) = false :=beq_eq_false_iff_ne.2 t1
        have nH:¬ isHd s VV i :=fun z => t1 z.1
        have eH:hdF s VV (i + 1) = H :=by rw [hdF,if_neg nH,← eM]
        repeat ((first|refine qak (nthP g0) ?_|refine qag ir ?_|refine qaf ir ?_|refine pkT ir ?_|refine qaa ir ?_|refine qal q0 ?_|refine qam q0 ?_|refine pkF q0 ?_|refine qab q0 ?_|refine qal (qao q0) ?_|refine qam (qao q0) ?_|refine pkF (qao q0) ?_|refine qab (qao q0) ?_|refine qal q2 ?_|refine qam q2 ?_|refine pkF q2 ?_|refine qab q2 ?_|refine qal (qao q2) ?_|refine qam (qao q2) ?_|refine pkF (qao q2) ?_|refine qab (qao q2) ?_|refine qad hS (by kernel_rfl) ?_);conv => whnf)
        exact ⟨(i + 1,(lkW N 27),(hdW H 9),bH H.length ++ bL N.length),⟨hi5,by show St (lkF s VV (i + 1)) (hdF s VV (i + 1)) _ _ _;rw [eL,eH];exact .inr (.inr (.inr (.inr ⟨sN,sH,rfl,rfl,rfl⟩)))⟩,by show VV.length + 1 - (i + 1) < VV.length + 1 - i;omega,Nat.le_refl _,(by refine ⟨rfl,rfl,rfl,rfl,rfl,rfl,30,rfl,?_,?_⟩ <;> repeat' (first|exact trivial|exact rfl|exact wkr rfl|exact wko rfl|exact Nat.zero_le _|exact ⟨_,rfl,WkV.int hi1⟩|exact qa6 _ (by decide)|exact qa7 _ (by decide)|exact qba _ _ (by decide)|exact kle rfl|exact bdq|exact mxI rfl|exact mxS rfl|apply And.intro))⟩
  ·have c1:decide (Int.ofNat (i + 1) < IntKind.i64.wrap (((spl 10 s).length:Int) - 2)) = false :=decide_eq_false (by rw [wR];simp only [Int.ofNat_eq_natCast];omega)
   have st:St N H (lkW N 27) (hdW H 9) (bH H.length ++ bL N.length) :=.inr (.inr (.inr (.inr ⟨sN,sH,rfl,rfl,rfl⟩)))
   have pP :=qeq hok (by omega) (by omega) st
   rcases hend with ⟨hl9,hc⟩ | ⟨hl9,_⟩
   rotate_left
   ·omega
   have hiE:i = VV.length :=by omega
   rw [hiE] at eN eM
   rw [← eN,← eM] at hc
   refine qab (c1) ?_
   conv => whnf
   refine .inl ?_
   conv => whnf
   rcases hc with ⟨hc,hr⟩ | ⟨hc,hr⟩
   ·have te:(prtB N H != s) = false :=by rw [bne,beq_iff_eq.2 hc];rfl
    repeat ((first|refine qal te ?_|refine qam te ?_|refine pkF te ?_|refine qab te ?_|refine qac hC (pP) ?_|refine qad hS (by kernel_rfl) ?_);conv => whnf)
    rw [hr]
    exact ⟨_,rfl,qpi st⟩
   ·have te:(prtB N H != s) = true :=by rw [bne,beq_eq_false_iff_ne.2 hc];rfl
    repeat ((first|refine qag te ?_|refine qaf te ?_|refine pkT te ?_|refine qaa te ?_|refine qac hC (pP) ?_|refine qad hS (by kernel_rfl) ?_);conv => whnf)
    rw [hr]
    exact ⟨_,rfl,Wk.refl _⟩
theorem qug {l:List (List UInt8)} (h:∀ w,w ∈ l → 4 ≤ w.length):∀ i,i ≤ l.length → 5 * i ≤ (ouB l i).length
 | 0,_ => Nat.zero_le _
 |i + 1,hi => by
  have ih :=qug h i (by omega)
  have hlt:i < l.length :=hi
  have e:gB l i = l[i] :=by simp [gB,List.getD,hlt]
  have k :=h _ (List.getElem_mem hlt)
  rw [ouB,List.length_append,List.length_append,e]
  show 5 * (i + 1) ≤ _ + (_ + 1)
  omega
theorem qrg (a b:List UInt8):a.length ≤ (a ++ b).length :=by rw [List.length_append];exact Nat.le_add_right _ _
theorem qvo (N:List Lk) (H:List Nat):5 * N.length ≤ (prtB N H).length :=by
 have k :=qug (l :=lnsB N H) (fun w hw => by
  rcases List.mem_cons.1 hw with rfl | hw
  ·exact Nat.le_trans (kle rfl) (qrg [112,105,101,99,101] _)
  ·rcases List.mem_append.1 hw with hw | hw
   ·obtain ⟨x,_,rfl⟩ :=List.mem_map.1 hw
    exact Nat.le_trans (qrg [108,105,110,107] _) (Nat.le_trans (qrg _ _) (qrg _ _))
   ·obtain ⟨x,_,rfl⟩ :=List.mem_map.1 hw
    exact qrg [104,97,110,100] _) _ (Nat.le_refl _)
 have k2 :=qrf N H
 unfold prtB
 rw [qum,List.length_append]
 omega
theorem qm9 {s:List UInt8} (hs:s.length ≤ 300) (ht:¬ ∃ N H,isT s N H):Pure prog 47 [.str s] rF :=by
 rcases qk8 (fun i V => rowG s i V) [] ((spl 10 s).length - 3) with ⟨VV,hl,h⟩ | ⟨VV,hl,h,hb⟩
 ·have hr:∀ i,i < VV.length → rowG s i (VV.getD i []) :=fun i hi => h i (by omega)
  refine qhp hs (by omega) hr (.inl ⟨hl,.inr ⟨fun e => ht ⟨_,_,qri hr _ (Nat.le_refl _),?_,e⟩,rfl⟩⟩)
  have :=qvo (lkF s VV VV.length) (hdF s VV VV.length)
  rw [e] at this
  omega
 ·refine qhp hs (by omega) h (.inr ⟨hl,rfl,?_⟩)
  rcases qk8 (fun k n => n < 100 ∧ gB (spl 32 (gB (spl 10 s) (VV.length + 1))) (k + 1) = dec n) 0 ((spl 32 (gB (spl 10 s) (VV.length + 1))).length - 1) with ⟨V,h1,h2⟩ | ⟨V,h1,h2,h3⟩
  ·have:0 < (spl 32 (gB (spl 10 s) (VV.length + 1))).length :=by rw [qc9];omega
   exact absurd ⟨V,by omega,fun k hk => h2 k (by omega)⟩ hb
  ·refine ⟨V,h2,by omega,qvh (fun ⟨n,a,b⟩ => h3 ⟨n,a,b⟩) ?_⟩
   have k1 :=qk6 32 (gB (spl 10 s) (VV.length + 1)) (V.length + 1)
   have k2 :=qk6 10 s (VV.length + 1)
   omega
def rwV (N:List Lk) (H:List Nat):List (List Nat) :=N.map (fun x => [x.1,x.2.1,x.2.2]) ++ H.map fun n => [n]
theorem qxc {N:List Lk} {H:List Nat} {i:Nat} (h:i < N.length):(rwV N H).getD i [] = [(gN N i).1,(gN N i).2.1,(gN N i).2.2] :=by
 unfold rwV
 simp only [List.getD_eq_getElem?_getD]
 rw [List.getElem?_append_left (by rw [List.length_map];exact h)]
 simp [h]
theorem qxd {N:List Lk} {H:List Nat} {i:Nat} (h:i < H.length):(rwV N H).getD (N.length + i) [] = [gn H i] :=by
 unfold rwV
 simp only [List.getD_eq_getElem?_getD]
 rw [List.getElem?_append_right (by rw [List.length_map];omega),List.length_map,Nat.add_sub_cancel_left]
 simp [gn,List.getD,h]
theorem qvd (N:List Lk) (H:List Nat):(rwV N H).length = N.length + H.length :=by
 unfold rwV
 rw [List.length_append,List.length_map,List.length_map]
theorem qpp {s:List UInt8} {N:List Lk} {H:List Nat} (t:TxB s N H) {i:Nat} (h:i < N.length):rowG s i ((rwV N H).getD i []) ∧ gB (spl 32 (gB (spl 10 s) (i + 1))) 0 = qen :=by
 have o :=qo5 t.ok h
 unfold rowG rowV
 rw [qxc h,t.lN i h,qj0 o]
 refine ⟨⟨rfl,fun k hk => ?_⟩,rfl⟩
 have hk:k < 3 :=hk
 obtain rfl | rfl | rfl:k = 0 ∨ k = 1 ∨ k = 2 :=by omega
 ·exact ⟨o.1,rfl⟩
 ·exact ⟨o.2.1,rfl⟩
 ·exact ⟨o.2.2,rfl⟩
theorem qpq {s:List UInt8} {N:List Lk} {H:List Nat} (t:TxB s N H) {i:Nat} (h:i < H.length):rowG s (N.length + i) ((rwV N H).getD (N.length + i) []) ∧ gB (spl 32 (gB (spl 10 s) (N.length + i + 1))) 0 = qfb :=by
 have o :=qo4 t.ok h
 unfold rowG rowV
 rw [qxd h,show N.length + i + 1 = i + (N.length + 1) by omega,t.lH i h,qj1 o]
 refine ⟨⟨rfl,fun k hk => ?_⟩,rfl⟩
 have hk:k < 1 :=hk
 obtain rfl:k = 0 :=by omega
 exact ⟨o,rfl⟩
theorem tx_L {s:List UInt8} {N:List Lk} {H:List Nat} (t:TxB s N H):∀ i,i ≤ N.length → lkF s (rwV N H) i = N.take i ∧ hdF s (rwV N H) i = []
 | 0,_ => ⟨rfl,rfl⟩
 |i + 1,hi => by
  have ih :=tx_L t i (by omega)
  have r :=(qpp t (i :=i) hi).2
  have e :=qxc (H :=H) (i :=i) hi
  have y:isLk s (rwV N H) i :=⟨r,by rw [e];rfl⟩
  have n:¬ isHd s (rwV N H) i :=fun z => absurd (r.symm.trans z.1) (by decide)
  rw [lkF,hdF,if_pos y,if_neg n,ih.1,ih.2,qhg N hi,e]
  exact ⟨rfl,rfl⟩
theorem tx_H {s:List UInt8} {N:List Lk} {H:List Nat} (t:TxB s N H):∀ i,i ≤ H.length → lkF s (rwV N H) (N.length + i) = N ∧ hdF s (rwV N H) (N.length + i) = H.take i
 | 0,_ => by
  have :=tx_L t N.length (Nat.le_refl _)
  rw [List.take_length] at this
  exact this
 |i + 1,hi => by
  have ih :=tx_H t i (by omega)
  have r :=(qpq t (i :=i) hi).2
  have e :=qxd (N :=N) (i :=i) hi
  have y:isHd s (rwV N H) (N.length + i) :=⟨r,by rw [e];rfl⟩
  have n:¬ isLk s (rwV N H) (N.length + i) :=fun z => absurd (r.symm.trans z.1) (by decide)
  rw [show N.length + (i + 1) = N.length + i + 1 from rfl,lkF,hdF,if_pos y,if_neg n,ih.1,ih.2,qf8 H hi,e]
  exact ⟨rfl,rfl⟩
theorem qkv {s:List UInt8} {N:List Lk} {H:List Nat} (hs:s.length ≤ 300) (ht:isT s N H):Pure prog 47 [.str s] (.tup [.agg [xN N,yH H],.bool true]) :=by
 have t :=ht.2.2 ▸ qkm ht.1 ht.2.1
 have hl :=qvd N H
 have k :=tx_H t H.length (Nat.le_refl _)
 rw [List.take_length] at k
 have hr:∀ i,i < (rwV N H).length → rowG s i ((rwV N H).getD i []) :=fun i hi => by
  by_cases h:i < N.length
  ·exact (qpp t h).1
  ·have :=(qpq t (i :=i - N.length) (by omega)).1
   rwa [show N.length + (i - N.length) = i by omega] at this
 have tl :=t.len
 exact qhp (VV :=rwV N H) hs (by omega) hr (.inl ⟨by omega,.inl (by rw [hl,k.1,k.2];exact ⟨ht.2.2,rfl⟩)⟩)




end
end Go.Abs.Seat
namespace Go.Abs.Seat
noncomputable section
open Go Go.Abs Go.Proofs.Tryz
set_option maxRecDepth 100000
set_option maxHeartbeats 40000000

end
end Go.Abs.Seat
namespace Go.Abs.Seat
noncomputable section
open Go Go.Abs Go.Proofs.Tryz
set_option maxRecDepth 100000
set_option maxHeartbeats 40000000
attribute [local irreducible] IntKind.wrap pEq
theorem qgq (a b:Int):Pure prog 106 [iv a,iv b] (.bool (decide ((tth a ∧ tth b) ∧ a ≤ b))) :=by
 by_cases h1:tth a
 ·have c1:decide (tth a) = true :=decide_eq_true h1
  by_cases h2:tth b
  ·have c2:decide (tth b) = true :=decide_eq_true h2
   refine qas hE rfl (by repeat' first|exact trivial|assumption|exact qah _|exact fun _ h => nomatch h|apply And.intro) (by repeat' first|exact trivial|assumption|exact qah _|exact fun _ h => nomatch h|apply And.intro) fun S q pc hS hq hC hE => ?_
   conv => whnf
   repeat ((first|refine qag ‹_› ?_|refine qaf ‹_› ?_|refine pkT ‹_› ?_|refine qaa ‹_› ?_|refine qag (qaq ‹_›) ?_|refine qaf (qaq ‹_›) ?_|refine pkT (qaq ‹_›) ?_|refine qaa (qaq ‹_›) ?_|refine qac hC (qb6 a) ?_|refine qac hC (qb6 b) ?_|refine qad hS (by kernel_rfl) ?_);conv => whnf)
   exact ⟨_,rfl,wkb (by simp [h1,h2])⟩
  ·have c2:decide (tth b) = false :=decide_eq_false h2
   refine qas hE rfl (by repeat' first|exact trivial|assumption|exact qah _|exact fun _ h => nomatch h|apply And.intro) (by repeat' first|exact trivial|assumption|exact qah _|exact fun _ h => nomatch h|apply And.intro) fun S q pc hS hq hC hE => ?_
   conv => whnf
   repeat ((first|refine qag ‹_› ?_|refine qaf ‹_› ?_|refine pkT ‹_› ?_|refine qaa ‹_› ?_|refine qal ‹_› ?_|refine qam ‹_› ?_|refine pkF ‹_› ?_|refine qab ‹_› ?_|refine qag (qaq ‹_›) ?_|refine qaf (qaq ‹_›) ?_|refine pkT (qaq ‹_›) ?_|refine qaa (qaq ‹_›) ?_|refine qal (qao ‹_›) ?_|refine qam (qao ‹_›) ?_|refine pkF (qao ‹_›) ?_|refine qab (qao ‹_›) ?_|refine qac hC (qb6 a) ?_|refine qac hC (qb6 b) ?_|refine qad hS (by kernel_rfl) ?_);conv => whnf)
   exact ⟨_,rfl,wkb (by simp [h2])⟩
 ·have c1:decide (tth a) = false :=decide_eq_false h1
  refine qas hE rfl (by repeat' first|exact trivial|assumption|exact qah _|exact fun _ h => nomatch h|apply And.intro) (by repeat' first|exact trivial|assumption|exact qah _|exact fun _ h => nomatch h|apply And.intro) fun S q pc hS hq hC hE => ?_
  conv => whnf
  repeat ((first|refine qal c1 ?_|refine qam c1 ?_|refine pkF c1 ?_|refine qab c1 ?_|refine qal (qao c1) ?_|refine qam (qao c1) ?_|refine pkF (qao c1) ?_|refine qab (qao c1) ?_|refine qac hC (qb6 a) ?_|refine qad hS (by kernel_rfl) ?_);conv => whnf)
  exact ⟨_,rfl,wkb (by simp [h1])⟩
theorem qfe (a b:Int):Pure prog 107 [fv a b] (.bool (decide (isF a b))) :=by
 by_cases h1:0 ≤ a ∧ a ≤ 50000
 ·have c1:decide (0 ≤ a ∧ a ≤ 50000) = true :=decide_eq_true h1
  refine qas hE rfl (by repeat' first|exact trivial|assumption|exact qah _|exact fun _ h => nomatch h|apply And.intro) (by repeat' first|exact trivial|assumption|exact qah _|exact fun _ h => nomatch h|apply And.intro) fun S q pc hS hq hC hE => ?_
  conv => whnf
  repeat ((first|refine qag c1 ?_|refine qaf c1 ?_|refine pkT c1 ?_|refine qaa c1 ?_|refine qag (qaq c1) ?_|refine qaf (qaq c1) ?_|refine pkT (qaq c1) ?_|refine qaa (qaq c1) ?_|refine qac hC (qbu a 0 50000) ?_|refine qac hC (qbu b 1 50000) ?_|refine qad hS (by kernel_rfl) ?_);conv => whnf)
  exact ⟨_,rfl,wkb (by unfold isF;simp [h1])⟩
 ·have c1:decide (0 ≤ a ∧ a ≤ 50000) = false :=decide_eq_false h1
  refine qas hE rfl (by repeat' first|exact trivial|assumption|exact qah _|exact fun _ h => nomatch h|apply And.intro) (by repeat' first|exact trivial|assumption|exact qah _|exact fun _ h => nomatch h|apply And.intro) fun S q pc hS hq hC hE => ?_
  conv => whnf
  repeat ((first|refine qal c1 ?_|refine qam c1 ?_|refine pkF c1 ?_|refine qab c1 ?_|refine qal (qao c1) ?_|refine qam (qao c1) ?_|refine pkF (qao c1) ?_|refine qab (qao c1) ?_|refine qac hC (qbu a 0 50000) ?_|refine qad hS (by kernel_rfl) ?_);conv => whnf)
  exact ⟨_,rfl,wkb (by unfold isF;simp [h1])⟩
theorem qof (a b n d:Nat) (h1:a * d < 4611686018427387904) (h2:n * b < 4611686018427387904):Pure prog 112 [fv (Int.ofNat a) (Int.ofNat b),fv (Int.ofNat n) (Int.ofNat d)] (qf (dQ n d (a,b))) :=by
 refine qas hE rfl (by repeat' first|exact trivial|assumption|exact qah _|exact fun _ h => nomatch h|apply And.intro) (by repeat' first|exact trivial|assumption|exact qah _|exact fun _ h => nomatch h|apply And.intro) fun S q pc hS hq hC hE => ?_
 conv => whnf
 refine ⟨_,rfl,wkE ?_⟩
 rw [show IntKind.i64.wrap (Int.ofNat a * Int.ofNat d) = Int.ofNat (a * d) from qaz (m :=a * d) (by omega),show IntKind.i64.wrap (Int.ofNat n * Int.ofNat b) = Int.ofNat (n * b) from qaz (m :=n * b) (by omega),
  qel (by show _ ≤ (_:Int) - _;simp only [Int.ofNat_eq_natCast];omega) (by simp only [Int.ofNat_eq_natCast];omega),qtl h1 h2]
 rfl
abbrev hpA (N:List Lk) (M:List Int) (n d:Nat) (W0 W2 W4:AObj):Tr AObj :=
 .node W0 (.node (.cells (.node (nv n) (.node (nv d) .nil .nil) .nil) 2 78) (.node (.cells (.node (nkA N) (.node (nl M) .nil .nil) (.node (pv (zp (rtL N (N.length + 1)))) .nil .nil)) 3 155) .nil .nil) (.node (.cells (.node (.func (.func 111) [] [.ptr 3 0,.ptr 1 0]) .nil .nil) 1 167) .nil .nil)) (.node W2 (.node W4 .nil .nil) .nil)
theorem qro (N:List Lk) (M:List Int) (n d:Nat) (W0 W2 W4:AObj):HEnd (hpA N M n d W0 W2 W4) 6 :=qfa [W0,.cells (.node (nv n) (.node (nv d) .nil .nil) .nil) 2 78,W2,.cells (.node (nkA N) (.node (nl M) .nil .nil) (.node (pv (zp (rtL N (N.length + 1)))) .nil .nil)) 3 155,W4,.cells (.node (.func (.func 111) [] [.ptr 3 0,.ptr 1 0]) .nil .nil) 1 167] 0 .nil qdu
abbrev lkV (x:Lk):AV :=.agg [nv x.1,nv x.2.1,nv x.2.2]
def wyA (N:List Lk) (n d:Nat) (x:Lk):Nat × Nat :=dQ n d ((rtA N x.1).1 * x.2.1,(rtA N x.1).2 * x.2.2)
structure nwL (N:List Lk) (x:Lk):Prop where
 f:x.1 ≤ N.length
 a:x.2.1 ≤ 60
 b:x.2.2 ≤ 60
theorem qpe {N:List Lk} (h:okN N) {n d:Nat} (hn:n ≤ 50000) (hd:d ≤ 50000) {x:Lk} (hx:nwL N x):((rtA N x.1).1 * x.2.1 ≤ 12960000 ∧ (rtA N x.1).2 * x.2.2 ≤ 12960000) ∧ (wyA N n d x).1 ≤ 648000000000 ∧ (wyA N n d x).2 ≤ 12960000 :=by
 have hb :=qho h hx.f
 have m1:(rtA N x.1).1 * x.2.1 ≤ 216000 * 60 :=Nat.mul_le_mul hb.1.2 hx.a
 have m2:(rtA N x.1).2 * x.2.2 ≤ 216000 * 60 :=Nat.mul_le_mul hb.2.2 hx.b
 have m3:(rtA N x.1).1 * x.2.1 * d ≤ 12960000 * 50000 :=Nat.mul_le_mul (by omega) hd
 have m4:n * ((rtA N x.1).2 * x.2.2) ≤ 50000 * 12960000 :=Nat.mul_le_mul hn (by omega)
 refine ⟨⟨by omega,by omega⟩,?_,by show (rtA N x.1).2 * x.2.2 ≤ _;omega⟩
 show gp ((rtA N x.1).1 * x.2.1 * d) (n * ((rtA N x.1).2 * x.2.2)) ≤ _
 unfold gp
 omega
theorem qu5 {N:List Lk} (h:okN N) {M:List Int} {n d:Nat} (hn:n ≤ 50000) (hd:d ≤ 50000) {W0 W2 W4:AObj} (b0:BdO 6 W0) (b2:BdO 6 W2) (b4:BdO 6 W4) {x:Lk} (hx:nwL N x) :
  HFun prog 111 [lkV x,.ptr 3 0,.ptr 1 0] (hv (hpA N M n d W0 W2 W4)) 6 (qf (wyA N n d x)) (hv (hpA N M n d W0 W2 W4)) :=by
 have lN :=qa5 (cL N)
 have lM :=qav M
 have lR :=qah (zp (rtL N (N.length + 1)))
 have hBd:ObBd 6 (hpA N M n d W0 W2 W4) 6 :=by
  repeat' (first|exact trivial|exact b0|exact b2|exact b4|exact Nat.zero_le _|exact qai lN|exact qai lM|exact qai lR|exact kle rfl|apply And.intro|exact Nat.max_le.2 ⟨Nat.zero_le _,qai lN⟩)
 refine qg9 hE rfl (qro N M n d W0 W2 W4) (kle rfl) (Nat.zero_le _) hBd hBd fun S q pc hS hq hC hE => ?_
 have hf :=hx.f
 have hb :=qpe h hn hd hx
 have tk:qbz 2 (qcf (x.1 * 2) (flat (zp (rtL N (N.length + 1))))) = some [nv (rtA N x.1).1,nv (rtA N x.1).2] :=by
  rw [qhh _ (by rw [qby];omega),qfj N (by omega)]
 have m3:(rtA N x.1).1 * x.2.1 * d ≤ 12960000 * 50000 :=Nat.mul_le_mul hb.1.1 hd
 have m4:n * ((rtA N x.1).2 * x.2.2) ≤ 50000 * 12960000 :=Nat.mul_le_mul hn hb.1.2
 conv => whnf
 refine qaa ((show inR (Int.ofNat x.1) (zp (rtL N (N.length + 1))).length = true by rw [qct,qby];exact qaj (by omega))) ?_
 conv => whnf
 refine qak (takP tk) ?_
 conv => whnf
 rw [mulN (a :=(rtA N x.1).1) (b :=x.2.1) (by omega),mulN (a :=(rtA N x.1).2) (b :=x.2.2) (by omega)]
 refine qac hC (qof ((rtA N x.1).1 * x.2.1) ((rtA N x.1).2 * x.2.2) n d (by omega) (by omega)) ?_
 conv => whnf
 exact ⟨_,rfl,WkV.refl _,rfl,rfl,rfl,rfl,rfl,rfl,trivial⟩
theorem ob6 {h h':Tr AObj} (e0:hv h 0 = hv h' 0) (e1:hv h 1 = hv h' 1) (e2:hv h 2 = hv h' 2) (e3:hv h 3 = hv h' 3) (e4:hv h 4 = hv h' 4) (e5:hv h 5 = hv h' 5):∀ i,i < 6 → hv h i = hv h' i
 | 0,_ => e0
 | 1,_ => e1
 | 2,_ => e2
 | 3,_ => e3
 | 4,_ => e4
 | 5,_ => e5
 | _ + 6,h => absurd h (by omega)
def btL (N:List Lk) (n d:Nat) (x y:Lk):Prop :=(wyA N n d x).1 * (wyA N n d y).2 < (wyA N n d y).1 * (wyA N n d x).2
instance (N:List Lk) (n d:Nat) (x y:Lk):Decidable (btL N n d x y) :=Nat.decLt _ _
theorem qt1 {N:List Lk} (h:okN N) {M:List Int} {n d:Nat} (hn:n ≤ 50000) (hd:d ≤ 50000) {W0 W2 W4:AObj} (b0:BdO 6 W0) (b2:BdO 6 W2) (b4:BdO 6 W4) {x y:Lk} (hx:nwL N x) (hy:nwL N y) :
  HFun prog 114 [lkV x,lkV y,.ptr 5 0] (hv (hpA N M n d W0 W2 W4)) 6 (.bool (decide (btL N n d x y))) (hv (hpA N M n d W0 W2 W4)) :=by
 have lN :=qa5 (cL N)
 have lM :=qav M
 have lR :=qah (zp (rtL N (N.length + 1)))
 have hBd:ObBd 6 (hpA N M n d W0 W2 W4) 6 :=by
  repeat' (first|exact trivial|exact b0|exact b2|exact b4|exact Nat.zero_le _|exact qai lN|exact qai lM|exact qai lR|exact kle rfl|apply And.intro|exact Nat.max_le.2 ⟨Nat.zero_le _,qai lN⟩)
 have ax :=qu5 h (M :=M) hn hd b0 b2 b4 hx
 have ay :=qu5 h (M :=M) hn hd b0 b2 b4 hy
 have gx :=(qpe h hn hd hx).2
 have gy :=(qpe h hn hd hy).2
 have m1:(wyA N n d x).1 * (wyA N n d y).2 ≤ 648000000000 * 12960000 :=Nat.mul_le_mul gx.1 gy.2
 have m2:(wyA N n d y).1 * (wyA N n d x).2 ≤ 648000000000 * 12960000 :=Nat.mul_le_mul gy.1 gx.2
 refine qg9 hE rfl (qro N M n d W0 W2 W4) (kle rfl) (Nat.zero_le _) hBd hBd fun S q pc hS hq hC hE => ?_
 conv => whnf
 refine qbp hC (HFun.pureR ax (ob6 rfl rfl rfl rfl rfl rfl)) ?_
 conv => whnf
 refine qbp hC (HFun.pureR ay (ob6 rfl rfl rfl rfl rfl rfl)) ?_
 conv => whnf
 refine qad hS (by kernel_rfl) ?_
 conv => whnf
 refine ⟨_,rfl,WkV.eq ?_,rfl,rfl,rfl,rfl,rfl,rfl,trivial⟩
 rw [mulN (a :=(wyA N n d x).1) (b :=(wyA N n d y).2) (by omega),mulN (a :=(wyA N n d y).1) (b :=(wyA N n d x).2) (by omega)]
 exact congrArg AV.bool (decide_eq_decide.2 Int.ofNat_lt)
def bsN (N:List Lk) (n d:Nat) (l:List Lk):Nat → Lk
 | 0 => (0,0,0)
 |i + 1 => if i = 0 ∨ btL N n d (gN l i) (bsN N n d l i) then gN l i else bsN N n d l i
theorem qu2 {N:List Lk} {n d:Nat} {l:List Lk} (hl:∀ x,x ∈ l → nwL N x):∀ i,i ≤ l.length → nwL N (bsN N n d l i)
 | 0,_ => ⟨Nat.zero_le _,Nat.zero_le _,Nat.zero_le _⟩
 |i + 1,h => by
  rw [bsN]
  split
  ·exact hl _ (qi3 l h)
  ·exact qu2 hl i (by omega)
def orE {α:Type} (o p:Option α):Option α :=match o with | some x => some x | none => p
def fstO {α:Type} (f:Nat → Option α):Nat → Nat → Option α
 | _,0 => none
 |k,n + 1 => orE (f k) (fstO f (k + 1) n)
def sr0 (N:List Lk) (H:List Nat) (hand:Nat) (t:Nat × Nat) (now:List Lk) (_:Nat):Option (List Lk) :=if suP N now H hand t then some [] else none
def stC (g:List Lk → Nat → Option (List Lk)) (N now:List Lk) (i a b:Nat):Option (List Lk) :=if (gN N i).2 = (a,b) then none else (g (chN now i a b) (i + 1)).map ((i,a,b) :: ·)
def srS (g:List Lk → Nat → Option (List Lk)) (N:List Lk) (lo hi:Nat) (now:List Lk) (fr:Nat):Option (List Lk) :=
 fstO (fun i => fstO (fun a => fstO (fun b => stC g N now i a b) lo (hi + 1 - lo)) lo (hi + 1 - lo)) fr (N.length - fr)
def srV:Option (List Lk) → AV
 |none => .tup [.nils,.bool false]
 |some [] => .tup [.nils,.bool true]
 |some (c :: r) => .tup [nkA (c :: r),.bool true]
theorem qwc (N:List Lk) (i a b j:Nat) (hi:i < N.length):gN (chN N i a b) j = if j = i then ((gN N i).1,a,b) else gN N j :=by
 unfold chN gN
 by_cases e:j = i
 ·subst e
  rw [if_pos rfl,List.getD,List.getElem?_set_self hi];rfl
 ·rw [if_neg e,List.getD,List.getElem?_set_ne (fun z => e z.symm)];rfl
theorem qie (N:List Lk) (i a b:Nat):(chN N i a b).length = N.length :=List.length_set
theorem qux (N:List Lk) (i a b j:Nat) (hi:i < N.length):(gN (chN N i a b) j).1 = (gN N j).1 :=by
 rw [qwc N i a b j hi]
 split
 ·rename_i e;subst e;rfl
 ·rfl
theorem qua {N:List Lk} {i a b:Nat} (hi:i < N.length):∀ (f x:Nat),(trF (chN N i a b) f x).length = (trF N f x).length
 | _,0 => by cases ‹Nat› <;> rfl
 | 0,_ + 1 => rfl
 |f + 1,x + 1 => by rw [trF,trF,List.length_append,List.length_append,qux N i a b x hi,qua hi f];rfl
theorem okN.ch {N:List Lk} (h:okN N) {i a b:Nat} (hi:i < N.length) (ha:tN a) (hb:tN b):okN (chN N i a b) :=by
 refine ⟨fun j hj => ?_,fun j hj => ?_,fun j hj => ?_,fun j hj => ?_⟩
 ·rw [qux N i a b j hi];exact h.wf j (by rw [qie] at hj;exact hj)
 ·rw [qie] at hj
  rw [qwc N i a b j hi]
  split
  ·exact ha
  ·exact h.t1 j hj
 ·rw [qie] at hj
  rw [qwc N i a b j hi]
  split
  ·exact hb
  ·exact h.t2 j hj
 ·rw [qie] at hj
  unfold tr
  rw [qua hi]
  exact h.d j hj
theorem eqPr (cst:Bool) (a b c d:Int):q0 86 cst (fv a b) (fv c d) = @Bool.rec (fun _ => Option Bool) (some false) (@Bool.rec (fun _ => Option Bool) (some false) (some true) (b == d)) (a == c) :=by kernel_rfl
theorem quu (cst:Bool) (a b c d:Nat):q0 86 cst (fv (Int.ofNat a) (Int.ofNat b)) (fv (Int.ofNat c) (Int.ofNat d)) = some (decide ((c,d) = (a,b))) :=by
 rw [eqPr]
 by_cases h1:a = c
 ·subst h1
  rw [beq_self_eq_true]
  by_cases h2:b = d
  ·subst h2
   rw [beq_self_eq_true,decide_eq_true rfl]
  ·rw [show (Int.ofNat b == Int.ofNat d) = false from beq_eq_false_iff_ne.2 fun z => h2 (Int.ofNat.inj z),decide_eq_false fun z => h2 (Prod.mk.inj z).2.symm]
 ·rw [show (Int.ofNat a == Int.ofNat c) = false from beq_eq_false_iff_ne.2 fun z => h1 (Int.ofNat.inj z),decide_eq_false fun z => h1 (Prod.mk.inj z).1.symm]
abbrev hpC (N:List Lk) (H:List Nat) (lo hi hand:Nat) (t:Nat × Nat):Tr AObj :=
 .node (.cells (.node (nkA N) (.node (nl (zl H)) .nil .nil) .nil) 2 64) (.node (.cells (.node (nv lo) .nil .nil) 1 3) (.node (.cells (.node (nv hand) .nil .nil) 1 3) (.node .hole (.node .hole (.nil) (.nil)) (.nil)) (.node .hole (.nil) (.nil))) (.node .hole (.node .hole (.nil) (.nil)) (.node (.cells (.node (nv t.1) (.node (nv t.2) .nil .nil) .nil) 2 161) (.nil) (.nil)))) (.node (.cells (.node (nv hi) .nil .nil) 1 3) (.node (.cells (.node (nv t.1) (.node (nv t.2) .nil .nil) .nil) 2 78) (.node .hole (.node (.cells (.node (.func (.func 108) [] [.ptr 12 0,.ptr 3 0,.ptr 13 0,.ptr 0 0,.ptr 1 0,.ptr 2 0,.ptr 16 0]) .nil .nil) 1 162) (.nil) (.nil)) (.nil)) (.node (.cells (.node (nkA N) (.node (nl (zl H)) .nil .nil) (.node (pv (zp (rtL N (N.length + 1)))) .nil .nil)) 3 155) (.nil) (.nil))) (.node .hole (.node .hole (.nil) (.nil)) (.node .hole (.nil) (.nil))))
theorem qrn (N:List Lk) (H:List Nat) (lo hi hand:Nat) (t:Nat × Nat):HEnd (hpC N H lo hi hand t) 17 :=qfa [(.cells (.node (nkA N) (.node (nl (zl H)) .nil .nil) .nil) 2 64),(.cells (.node (nv lo) .nil .nil) 1 3),(.cells (.node (nv hi) .nil .nil) 1 3),(.cells (.node (nv hand) .nil .nil) 1 3),(.cells (.node (nv t.1) (.node (nv t.2) .nil .nil) .nil) 2 78),.hole,.hole,.hole,.hole,.hole,.hole,.hole,(.cells (.node (nkA N) (.node (nl (zl H)) .nil .nil) (.node (pv (zp (rtL N (N.length + 1)))) .nil .nil)) 3 155),(.cells (.node (nv t.1) (.node (nv t.2) .nil .nil) .nil) 2 161),.hole,.hole,(.cells (.node (.func (.func 108) [] [.ptr 12 0,.ptr 3 0,.ptr 13 0,.ptr 0 0,.ptr 1 0,.ptr 2 0,.ptr 16 0]) .nil .nil) 1 162)] 0 .nil qdu
abbrev scA (now:List Lk) (H:List Nat) (fr k:Nat):List AV :=[.agg [nkA now,nl (zl H)],nv fr,nv k,.ptr 12 0,.ptr 3 0,.ptr 13 0,.ptr 0 0,.ptr 1 0,.ptr 2 0,.ptr 16 0]
theorem quj (N:List Lk) (H:List Nat) (lo hi hand:Nat) (t:Nat × Nat):ObBd 17 (hpC N H lo hi hand t) 17 :=by
 have lN :=qa5 (cL N)
 have lM :=qav (zl H)
 have lR :=qah (zp (rtL N (N.length + 1)))
 repeat' (first|exact trivial|exact Nat.zero_le _|exact qai lN|exact qai lM|exact qai lR|exact kle rfl|apply And.intro|exact Nat.max_le.2 ⟨Nat.zero_le _,qai lN⟩)
theorem qks {N now:List Lk} (h:okN N) (h2:okN now) (h1:1 ≤ N.length) (hN:N.length ≤ 5) (hl:now.length = N.length) {H:List Nat} (hH:hdN N.length H) (lo hi:Nat) {hand:Nat} (hh:hand < H.length) {t:Nat × Nat} (t1:t.1 ≤ 50000) (t2:t.2 ≤ 50000) (fr:Nat) :
  HFun prog 108 (scA now H fr 0) (hv (hpC N H lo hi hand t)) 17 (srV (sr0 N H hand t now fr)) (hv (hpC N H lo hi hand t)) :=by
 have lN :=qa5 (cL N)
 have lN2 :=qa5 (cL now)
 have lM :=qav (zl H)
 have lR :=qah (zp (rtL N (N.length + 1)))
 have pw :=qhc h2 (by omega) (by omega) (zl H)
 have ps :=qod h h2 hN hl hH hh t1 t2
 have lR2 :=qah (zp (rtL now (now.length + 1)))
 have hb :=quj N H lo hi hand t
 unfold wiV at pw ps
 have ev:srV (sr0 N H hand t now fr) = .tup [.nils,.bool (decide (suP N now H hand t))] :=by
  unfold sr0
  by_cases e:suP N now H hand t
  ·rw [if_pos e,decide_eq_true e];rfl
  ·rw [if_neg e,decide_eq_false e];rfl
 rw [ev]
 refine qg9 hE rfl (qrn N H lo hi hand t) (Nat.max_le.2 ⟨Nat.max_le.2 ⟨Nat.max_le.2 ⟨Nat.zero_le _,qai lN2⟩,Nat.max_le.2 ⟨Nat.max_le.2 ⟨Nat.zero_le _,qai lM⟩,Nat.zero_le _⟩⟩,kle rfl⟩) (Nat.zero_le _) hb hb fun S q pc hS hq hC hE => ?_
 conv => whnf
 refine qac hC (pw) ?_
 conv => whnf
 refine qac hC (ps) ?_
 conv => whnf
 refine qad hS (by kernel_rfl) ?_
 conv => whnf
 exact ⟨_,rfl,WkV.refl _,rfl,rfl,rfl,rfl,rfl,rfl,rfl,rfl,rfl,rfl,rfl,rfl,rfl,rfl,rfl,rfl,rfl,trivial⟩



end
end Go.Abs.Seat
