/-
  The nearest fractions of some pairs.
-/
import Derived.Test.YtpjclnoehlflcaaGreatDoorU9
/-! The nearest fractions of some pairs. -/
namespace Go.Abs.Seat
noncomputable section
open Go Go.Abs Go.Proofs.Tryz
set_option maxRecDepth 100000
set_option maxHeartbeats 40000000
attribute [local irreducible] IntKind.wrap pEq
abbrev boX (a b p s:Int) (N T:AV) (S M:List AV):AObj :=.cells (.node (iv a) (.node (iv b) (.node (iv s) (.node (.lst M M.length .no) .nil .nil) .nil) (.node T .nil .nil)) (.node (iv p) (.node N .nil .nil) (.node (.lst S S.length .no) .nil .nil))) 8 122
theorem ob2 {h h':Tr AObj} (e0:hv h 0 = hv h' 0) (e1:hv h 1 = hv h' 1):∀ i,i < 2 → hv h i = hv h' i
 | 0,_ => e0
 | 1,_ => e1
 | _ + 2,h => absurd h (by omega)
theorem qih (tp:Nat → Prop):∀ p,(prS tp p).length = p + 1
 | 0 => rfl
 |p + 1 => by rw [prS,List.length_append,qih tp p];rfl
theorem qta (tp:Nat → Prop):∀ (p k:Nat),k ≤ p → nth (prS tp p) k = some (sv (zl (lstP (qak tp k) (60 ^ k + 1))))
 | 0,0,_ => rfl
 |p + 1,k,h => by
  rw [qe0,prS]
  by_cases e:k = p + 1
  ·subst e
   rw [List.getElem?_append_right (by rw [qih];omega),qih,Nat.sub_self]
   rfl
  ·rw [List.getElem?_append_left (by rw [qih];omega),← qe0]
   exact qta tp p k (by omega)
section
variable {n d:Nat} {s:NS} {q:Nat × Nat}
theorem qj8 (h:s.1 = [] ∨ (dQ n d q).1 * s.2.2 < s.2.1 * (dQ n d q).2):cand n d s q = ([q],dQ n d q) :=by unfold cand;rw [if_pos h]
theorem qqq (h0:s.1 ≠ []) (h1:¬ (dQ n d q).1 * s.2.2 < s.2.1 * (dQ n d q).2) (h2:(dQ n d q).1 * s.2.2 = s.2.1 * (dQ n d q).2) (h3:q ∉ s.1):cand n d s q = (s.1 ++ [q],s.2) :=by
 unfold cand
 rw [if_neg fun h => h.elim h0 h1,if_pos ⟨h2,h3⟩]
theorem qhi (h0:s.1 ≠ []) (h1:¬ (dQ n d q).1 * s.2.2 < s.2.1 * (dQ n d q).2) (h2:¬ ((dQ n d q).1 * s.2.2 = s.2.1 * (dQ n d q).2 ∧ q ∉ s.1)):cand n d s q = s :=by
 unfold cand
 rw [if_neg fun h => h.elim h0 h1,if_neg h2]
end
structure NB (s:NS) (m:Nat):Prop where
 e1:s.2.1 ≤ 10800000000
 e2:s.2.2 ≤ 216000
 ln:s.1.length ≤ m
theorem q0f {n d:Nat} {s:NS} {q:Nat × Nat} {m:Nat} (h:NB s m) (h1:(dQ n d q).1 ≤ 10800000000) (h2:q.2 ≤ 216000):NB (cand n d s q) (m + 1) :=by
 unfold cand
 split
 ·exact ⟨h1,h2,by simp⟩
 ·split
  ·exact ⟨h.e1,h.e2,by rw [List.length_append];exact Nat.add_le_add_right h.ln 1⟩
  ·exact ⟨h.e1,h.e2,Nat.le_succ_of_le h.ln⟩
theorem qvb {n d:Nat} (s:NS) (q:Nat × Nat):(cand n d s q).1 ≠ [] :=by
 unfold cand
 split
 ·intro e;cases e
 ·rename_i h
  split
  ·simp
  ·exact fun e => h (.inl e)
structure CaF (n d x y:Nat) (q:Nat × Nat):Prop where
 red:Pure prog 126 [nv x,nv y] (qf q)
 dis:Pure prog 101 [qf q,fv (Int.ofNat n) (Int.ofNat d)] (qf (dQ n d q))
 b1:(dQ n d q).1 ≤ 10800000000
 b2:q.2 ≤ 216000
theorem caF {n d x y:Nat} (hn:n ≤ 50000) (hd:1 ≤ d ∧ d ≤ 50000) (hx:x ≤ 216000) (hy:1 ≤ y ∧ y ≤ 216000):CaF n d x y (redF x y) :=by
 have q1:(redF x y).1 ≤ 216000 :=Nat.le_trans (Nat.div_le_self _ _) hx
 have q2:(redF x y).2 ≤ 216000 :=Nat.le_trans (Nat.div_le_self _ _) hy.2
 have m1:(redF x y).1 * d ≤ 216000 * 50000 :=Nat.mul_le_mul q1 hd.2
 have m2:n * (redF x y).2 ≤ 50000 * 216000 :=Nat.mul_le_mul hn q2
 refine ⟨qdc _ _ (by omega) (by omega) hy.1,qlv _ _ _ _ (by omega) (by omega),?_,q2⟩
 show gp _ _ ≤ _
 unfold gp
 omega
theorem cmpQ {e f:Nat × Nat} (h1:e.1 ≤ 10800000000) (h2:e.2 ≤ 216000) (h3:f.1 ≤ 10800000000) (h4:f.2 ≤ 216000):Pure prog 100 [qf e,qf f] (iv (Int.ofNat (e.1 * f.2) - Int.ofNat (f.1 * e.2))) :=by
 have m1:e.1 * f.2 ≤ 10800000000 * 216000 :=Nat.mul_le_mul h1 h4
 have m2:f.1 * e.2 ≤ 10800000000 * 216000 :=Nat.mul_le_mul h3 h2
 exact qd7 _ _ _ _ (by omega) (by omega)
theorem qno {a b:Nat}:decide (Int.ofNat a - Int.ofNat b < 0) = decide (a < b) :=decide_eq_decide.2 (by show (a:Int) - (b:Int) < 0 ↔ _;omega)
theorem qsm {a b:Nat}:(Int.ofNat a - Int.ofNat b == 0) = decide (a = b) :=by
 rw [Bool.eq_iff_iff,beq_iff_eq,decide_eq_true_iff]
 show (a:Int) - (b:Int) = 0 ↔ _
 omega
theorem pvA (l:List (Nat × Nat)) (q:Nat × Nat) (o:Own):AV.lst (flat (zp l) ++ [nv q.1,nv q.2]) ((zp l).length + (0 + 1)) o = .lst (flat (zp (l ++ [q]))) (zp (l ++ [q])).length o :=by
 have e:flat (zp (l ++ [q])) = flat (zp l) ++ [nv q.1,nv q.2] :=by
  unfold zp
  rw [List.map_append]
  generalize l.map (fun p => (Int.ofNat p.1,Int.ofNat p.2)) = m
  induction m with
  |nil => rfl
  |cons p r ih => show iv p.1 :: iv p.2 :: flat (r ++ _) = _;rw [ih];rfl
 rw [e,qa9,qa9,List.length_append]
 rfl
theorem qcz (l:List (Nat × Nat)):qeh (flat (zp l)) ((zp l).length * 2) = true :=by
 have h:∀ xs:List AV,qeh xs xs.length = true :=fun xs => by induction xs with
  |nil => rfl
  |cons x r ih => exact ih
 have :=h (flat (zp l))
 rwa [flat_len] at this
theorem qmp (all:List Nat) (n d:Nat) {i:Nat} (h:i < all.length):qfo n d ((all.take (i + 1)).flatMap (qbv all n d)) = (qbv all n d (gn all i)).foldl (cand n d) (qfo n d ((all.take i).flatMap (qbv all n d))) :=by
 rw [qnm all h,List.flatMap_append,qvd]
 simp
def preC (all:List Nat) (n d x:Nat):Nat → List (Nat × Nat)
 | 0 => []
 | 1 => if 1 ≤ cntB n (x * d) all then [redF x (gn all (cntB n (x * d) all - 1))] else []
 | _ + 2 => qbv all n d x
theorem qy7 (all:List Nat) (n d x:Nat):preC all n d x 2 = preC all n d x 1 ++ (if cntB n (x * d) all < all.length then [redF x (gn all (cntB n (x * d) all))] else []) :=rfl
theorem rnB {m:Nat} {rs:List Nat} {l:List (Nat × Nat)} {q:Nat × Nat} {j c e:Nat} (hj:j < rs.length) (h1:rs.getD j 0 = c) (h2:e = m + j):RnV m rs (.lst (flat (zp l) ++ [nv q.1,nv q.2]) ((zp l).length + (0 + 1)) (.ch c)) (.lst (flat (zp (l ++ [q]))) (zp (l ++ [q])).length (.ch e)) :=by
 rw [pvA];exact RnV.ch hj h1 h2 (qaj (qag _))
theorem rnC {m:Nat} {rs:List Nat} {xs:List AV} {k:Nat} {j c e:Nat} (hj:j < rs.length) (h1:rs.getD j 0 = c) (h2:e = m + j) (hx:Lives noL xs):RnV m rs (.lst xs k (.ch c)) (.lst xs k (.ch e)) :=RnV.ch hj h1 h2 (qaj hx)
theorem rnW {m:Nat} {rs:List Nat} {l:List (Nat × Nat)} {q:Nat × Nat} {c:Nat} (h:c + 1 ≤ m):RnV m rs (.lst (flat (zp l) ++ [nv q.1,nv q.2]) ((zp l).length + (0 + 1)) (.ch c)) (.lst (flat (zp (l ++ [q]))) (zp (l ++ [q])).length (.ch c)) :=by
 rw [pvA];exact .wk (WkV.refl _) (Nat.max_le.2 ⟨h,qaj (qag _)⟩)
theorem rnK {m:Nat} {rs:List Nat} {xs:List AV} {k c:Nat} (h:c + 1 ≤ m) (hx:Lives noL xs):RnV m rs (.lst xs k (.ch c)) (.lst xs k (.ch c)) :=.wk (WkV.refl _) (Nat.max_le.2 ⟨h,qaj hx⟩)
theorem chB (l:List (Nat × Nat)) (q:Nat × Nat):AObj.chain ((zp l).length + (0 + 1)) 2 24 = .chain (zp (l ++ [q])).length 2 24 :=by
 rw [qa9,qa9,List.length_append];rfl
theorem qg8 {l:List (Nat × Nat)} (h:l ≠ []):trA l = pv (zp l) :=by
 cases l with
 |nil => exact absurd rfl h
 |cons p r => rfl
theorem qbn {l:List (Nat × Nat)} (h:l ≠ []):(((zp l).length:Int) == 0) = false :=by
 rw [beq_eq_false_iff_ne,qa9]
 intro e
 have:l.length = 0 :=by omega
 exact h (List.length_eq_zero_iff.1 this)
theorem Exists.elim1 {α:Type} {p:α → Prop} {Q:Prop} (h:∃ a,p a) (k:∀ a,p a → Q):Q :=h.elim k
structure StC (all:List Nat) (n d x c:Nat) (s0:NS):Prop where
 a0:∀ q,q = redF x (gn all (c - 1)) → ∀ s,s = (preC all n d x 0).foldl (cand n d) s0 → 1 ≤ c → ∀ {s'},cand n d s q = s' → s' = (preC all n d x 1).foldl (cand n d) s0
 a1:∀ q,q = redF x (gn all c) → ∀ s,s = (preC all n d x 1).foldl (cand n d) s0 → c < all.length → ∀ {s'},cand n d s q = s' → s' = (preC all n d x 2).foldl (cand n d) s0
 n0:∀ s,s = (preC all n d x 0).foldl (cand n d) s0 → ¬ 1 ≤ c → s = (preC all n d x 1).foldl (cand n d) s0
 n1:∀ s,s = (preC all n d x 1).foldl (cand n d) s0 → ¬ c < all.length → s = (preC all n d x 2).foldl (cand n d) s0
theorem qxu (all:List Nat) (n d x:Nat) (s0:NS):StC all n d x (cntB n (x * d) all) s0 :=by
 refine ⟨fun q hq s hs h s' e => ?_,fun q hq s hs h s' e => ?_,fun s hs h => ?_,fun s hs h => ?_⟩
 ·rw [← e,hs,hq,preC,preC,if_pos h];rfl
 ·rw [← e,hs,hq,qy7,if_pos h,List.foldl_append];rfl
 ·rw [hs,preC,preC,if_neg h]
 ·rw [hs,qy7,if_neg h,List.append_nil]
theorem qs9 (all:List Nat) (n d x:Nat) (s0:NS) (h:1 ≤ all.length):((preC all n d x 2).foldl (cand n d) s0).1 ≠ [] :=by
 rw [qy7]
 have hc :=qi4 n (x * d) all
 by_cases h2:cntB n (x * d) all < all.length
 ·rw [if_pos h2,List.foldl_append]
  exact qvb _ _
 ·rw [if_neg h2,List.append_nil,preC,if_pos (by omega)]
  exact qvb _ _
theorem NB.up {s:NS} {m:Nat} (h:NB s m):NB s (m + 1) :=⟨h.e1,h.e2,Nat.le_succ_of_le h.ln⟩
theorem NB.one {s:NS} {m n d:Nat} {q:Nat × Nat} (_h:NB s m) (h1:(dQ n d q).1 ≤ 10800000000) (h2:q.2 ≤ 216000):NB ([q],dQ n d q) (m + 1) :=⟨h1,h2,by simp⟩
theorem NB.more {s:NS} {m:Nat} (h:NB s m) (q:Nat × Nat):NB (s.1 ++ [q],s.2) (m + 1) :=⟨h.e1,h.e2,by show (s.1 ++ [q]).length ≤ _;rw [List.length_append];exact Nat.add_le_add_right h.ln 1⟩
theorem inB {x y:Int} {b:Bool} (h:b = true ↔ 0 ≤ x ∧ x ≤ y):Pure prog 103 [iv x,iv 0,iv y] (.bool b) :=by
 have :=qcv x 0 y
 rwa [show decide (0 ≤ x ∧ x ≤ y) = b by rw [Bool.eq_iff_iff,decide_eq_true_iff,h]] at this
section
variable (all:List Nat) (c:Nat) (hll:all.length ≤ 216001)
include hll
theorem lenW (h:1 ≤ all.length):IntKind.i64.wrap (((zl all).length:Int) - 1) = Int.ofNat (all.length - 1) :=by
 rw [qax];exact qfg (m :=all.length) h (by omega)
theorem q04 (h2:c ≤ all.length) (h:1 ≤ c):Pure prog 103 [.int .i64 (IntKind.i64.wrap (Int.ofNat c - 1)),iv 0,.int .i64 (IntKind.i64.wrap (((zl all).length:Int) - 1))] (.bool true) :=by
 rw [lenW all hll (by omega),show IntKind.i64.wrap (Int.ofNat c - 1) = Int.ofNat (c - 1) from qfg h (by omega)]
 exact inB ⟨fun _ => ⟨Int.natCast_nonneg _,by show ((c - 1:Nat):Int) ≤ ((all.length - 1:Nat):Int);omega⟩,fun _ => rfl⟩
theorem qx2 (h1:1 ≤ all.length) (h:¬ 1 ≤ c):Pure prog 103 [.int .i64 (IntKind.i64.wrap (Int.ofNat c - 1)),iv 0,.int .i64 (IntKind.i64.wrap (((zl all).length:Int) - 1))] (.bool false) :=by
 obtain rfl:c = 0 :=by omega
 rw [lenW all hll h1,show IntKind.i64.wrap (Int.ofNat 0 - 1) = -1 from qas (by decide) (by decide)]
 exact inB ⟨fun e => (nomatch e),fun e => absurd e.1 (by decide)⟩
theorem q03 (h:c < all.length):Pure prog 103 [nv c,iv 0,.int .i64 (IntKind.i64.wrap (((zl all).length:Int) - 1))] (.bool true) :=by
 rw [lenW all hll (by omega)]
 exact inB ⟨fun _ => ⟨Int.natCast_nonneg _,by show (c:Int) ≤ ((all.length - 1:Nat):Int);omega⟩,fun _ => rfl⟩
theorem qx1 (h1:1 ≤ all.length) (h:¬ c < all.length):Pure prog 103 [nv c,iv 0,.int .i64 (IntKind.i64.wrap (((zl all).length:Int) - 1))] (.bool false) :=by
 rw [lenW all hll h1]
 exact inB ⟨fun e => (nomatch e),fun e => absurd e.2 (by show ¬ (c:Int) ≤ ((all.length - 1:Nat):Int);omega)⟩
end
theorem bs_w {W0:AObj} (hW:BdO 2 W0) (N D:Nat) (hN:N ≤ 50000) (l:List Nat) (hs:Srt l) (hl:l.length ≤ 216001) (hb:∀ x,x ∈ l → x ≤ 216000) (x:Nat) (hx:x * D < 9223372036854775808) :
  HFun prog 159 [nl (zl l),.int .i64 (IntKind.i64.wrap (Int.ofNat x * Int.ofNat D)),.func (.func 160) [] [.ptr 1 0]] (hv (hpW W0 N D)) 2 (.tup [nv (cntB N (x * D) l),.unk]) (hv (hpW W0 N D)) :=by
 rw [mulN hx]
 exact bs_h hW N D hN l hs hl hb (x * D)
theorem qpa {a b:Nat} (h:a < b):decide (Int.ofNat a - Int.ofNat b < 0) = true :=by rw [qno];exact zT h
theorem qpb {a b:Nat} (h:¬ a < b):decide (Int.ofNat a - Int.ofNat b < 0) = false :=by rw [qno];exact zF h
theorem qao {a b:Nat} (h:a = b):(Int.ofNat a - Int.ofNat b == 0) = true :=by rw [qsm];exact zT h
theorem qbk {a b:Nat} (h:¬ a = b):(Int.ofNat a - Int.ofNat b == 0) = false :=by rw [qsm];exact zF h
theorem qbl {p:Prop} {i:Decidable p} (h:p):(!(@decide p i)) = false :=by rw [zT h];rfl
theorem qbm {p:Prop} {i:Decidable p} (h:¬ p):(!(@decide p i)) = true :=by rw [zF h];rfl
theorem qho:∀ l:List (Int × Int),wkl (flat l) = flat l
 | [] => by simp only [flat,wkl]
 |p :: r => by simp only [flat,wkl,wk,qho r]
theorem cqW (l:List (Nat × Nat)) (hl:l.length < 4611686018427387904) (x:Nat × Nat) (c:Nat):Pure prog 161 (wkl [.lst (flat (zp l)) (zp l).length (.ch c),qf x]) (.bool (decide (x ∈ l))) :=by
 have :=qjf l hl x
 rwa [show wkl [.lst (flat (zp l)) (zp l).length (.ch c),qf x] = [pv (zp l),qf x] by simp only [wkl,wk,qho]]
theorem q09 {N:AV} {l:List Int} (hN:IL N l) (a b s9:Int) (Q k:Nat) (hk:k ≤ Q) (_hQ:Q ≤ 3) (TL:List Nat) (n d:Nat) (hn:n ≤ 50000) (hd:1 ≤ d ∧ d ≤ 50000) (all:List Nat) (hsr:Srt all) (hal:∀ x,x ∈ all → 1 ≤ x ∧ x ≤ 216000) (hll:all.length ≤ 216001) (hne0:all ≠ []) (hnth:nth (prS (fun n => n ∈ TL) Q) k = some (nl (zl all))) :
  Pure prog 134 [whv a b (Int.ofNat Q) s9 N (nl (zl TL)) (prS (fun n => n ∈ TL) Q) (prM (fun n => n ∈ TL) Q),nv k,fv (Int.ofNat n) (Int.ofNat d)] (.tup [trA (qdt all n d).1,qf (qdt all n d).2]) :=by
 have lT:Live noL (nl (zl TL)) :=nl_no _
 have lN :=hN.no
 have lA:Live noL (nl (zl all)) :=nl_no _
 have lS :=qg9 (fun n => n ∈ TL) Q
 have lM :=qe5 (fun n => n ∈ TL) Q
 have lS2:Live noL (.lst (prS (fun n => n ∈ TL) Q) (prS (fun n => n ∈ TL) Q).length .no) :=⟨lS,fun _ e => nomatch e⟩
 have lM2:Live noL (.lst (prM (fun n => n ∈ TL) Q) (prM (fun n => n ∈ TL) Q).length .no) :=⟨lM,fun _ e => nomatch e⟩
 have lv1 :=ql6 (qdt all n d).1
 have hnf:(qdt all n d).1 ≠ [] :=fun e => hne0 ((qga hsr (fun x hx => (hal x hx).1) hd.1).nil.1 e)
 have hW:BdO 2 (boX a b (Int.ofNat Q) s9 N (nl (zl TL)) (prS (fun n => n ∈ TL) Q) (prM (fun n => n ∈ TL) Q)) :=(by repeat' (first | exact bz lT | exact bz lN | exact bz lA | exact qaj (qag _) | exact bz lS2 | exact bz lM2 | exact zZ | apply And.intro))
 rcases hN.cs with rfl | rfl
 all_goals
  refine zA fun S q pc hS hq hC hE => ?_
  conv=>whnf
  refine qaa (qaf (show k < (prS (fun n => n ∈ TL) Q).length by rw [qih];omega)) ?_
  conv=>whnf
  refine qac (nthP (show nth (prS (fun n => n ∈ TL) Q) (k * 1) = some (nl (zl all)) by rw [Nat.mul_one];exact hnth)) ?_
  conv=>whnf
  refine qee hE hS (A :=Nat × NS × AV × List AObj) [] (fun x hx => hx) [3,5,7,9,10,24,25] (fun (i,_,v,_) => [(8,v),(26,nv i)]) (fun (_,s,_,_) => [(3,.cells (.node (nv s.2.1) (.node (nv s.2.2) .nil .nil) .nil) 2 24)]) (fun a => a.2.2.2) (fun (i,s,v,ux) => i ≤ all.length ∧ s = qfo n d ((all.take i).flatMap (qbv all n d)) ∧ NB s (2 * i) ∧ (s.1 = [] ∧ v = .nils ∧ ux = [] ∨ s.1 ≠ [] ∧ v = .lst (flat (zp (s.1))) (zp (s.1)).length (.ch 4) ∧ ux = [.chain (zp (s.1)).length 2 24])) (fun (i,_,_,_) => all.length - i) (0,([],(0,0)),.nils,[]) (Nat.le_of_ble_eq_true rfl) trivial rfl (by repeat' (first | exact bz lT | exact bz lN | exact bz lA | exact qaj (qag _) | exact bz lS2 | exact bz lM2 | exact zZ | apply And.intro)) (by refine ⟨rfl,rfl,rfl,rfl,rfl,rfl,by decide,?_,?_,?_,by kernel_rfl,?_,?_⟩ <;> repeat' (first | exact bz lT | exact bz lN | exact bz lA | exact qaj (qag _) | exact bz lS2 | exact bz lM2 | exact ⟨_,rfl,RnV.wk (WkV.refl _) (bz lA)⟩ | exact zZ | apply And.intro)) ⟨Nat.zero_le _,rfl,⟨Nat.zero_le _,Nat.zero_le _,Nat.zero_le _⟩,.inl ⟨rfl,rfl,rfl⟩⟩ ?_
  rintro ⟨i,s,v,ux⟩ ⟨hi0,hs,hnb,hR⟩ M hM
  have hi1:i < all.length → IntKind.i64.wrap (Int.ofNat i + 1) = Int.ofNat (i + 1) :=fun h => qa2 (m :=i + 1) (by omega)
  rcases hR with ⟨e0,rfl,rfl⟩ | ⟨hne,rfl,rfl⟩
  ·obtain rfl:M = 4 :=hM
   conv=>whnf
   by_cases hi:i < all.length
   ·refine qaa ((show decide (Int.ofNat i < ((zl all).length:Int)) = true from zT (by rw [qax];show (i:Int) < _;omega))) ?_
    conv=>whnf
    refine qaa (qaf (show i < (zl all).length by rw [qax];exact hi)) ?_
    conv=>whnf
    refine qac (nthP (show nth (ivs (zl all)) (i * 1) = some (nv (gn all i)) by rw [qa4 (by rw [qax];exact hi),qcw all hi])) ?_
    conv=>whnf
    have hx :=hal _ (qbd all hi)
    have hmu:gn all i * d ≤ 216000 * 50000 :=Nat.mul_le_mul hx.2 hd.2
    have bh :=bs_w hW n d hn all hsr hll (fun x hx => (hal x hx).2) (gn all i) (by omega)
    have hcl :=qi4 n (gn all i * d) all
    have hstep :=qmp all n d hi
    rw [← hs] at hstep
    have hco :=(qej hsr (fun x hx => (hal x hx).1) (N :=n) (D :=d) hd.1 (qbd all hi))
    have hca0:1 ≤ cntB n (gn all i * d) all → CaF n d (gn all i) (gn all (cntB n (gn all i * d) all - 1)) (redF (gn all i) (gn all (cntB n (gn all i * d) all - 1))) :=fun h => caF hn hd hx.2 (hal _ (qbd all (by omega)))
    have hca1:cntB n (gn all i * d) all < all.length → CaF n d (gn all i) (gn all (cntB n (gn all i * d) all)) (redF (gn all i) (gn all (cntB n (gn all i * d) all))) :=fun h => caF hn hd hx.2 (hal _ (qbd all h))
    have hAs :=qxu all n d (gn all i) s
    have hnn2:((preC all n d (gn all i) 2).foldl (cand n d) s).1 ≠ [] :=qs9 all n d (gn all i) s (by omega)
    refine Exists.elim1 (⟨_,rfl⟩ : ∃ c,c = cntB n (gn all i * d) all) fun c hcc => ?_
    rw [← hcc] at hcl hca0 hca1 hAs bh
    refine Exists.elim1 (⟨_,rfl⟩ : ∃ s0,s0 = s) fun s0 hss => ?_
    have hstep:qfo n d ((all.take (i + 1)).flatMap (qbv all n d)) = (preC all n d (gn all i) 2).foldl (cand n d) s0 :=by rw [hss];exact hstep
    rw [← hss] at hAs hnn2
    have hA00 :=hAs.a0
    have hA10 :=hAs.a1
    have hN0 :=hAs.n0
    have hN1 :=hAs.n1
    have hc0w:1 ≤ c → IntKind.i64.wrap (Int.ofNat c - 1) = Int.ofNat (c - 1) :=fun h => qfg h (by omega)
    have hw0:IntKind.i64.wrap (Int.ofNat 0 + 1) = Int.ofNat 1 :=qas (by decide) (by decide)
    have hw1:IntKind.i64.wrap (Int.ofNat 1 + 1) = Int.ofNat 2 :=qas (by decide) (by decide)
    have pin0 :=q04 all c hll hcl
    have pinN0 :=qx2 all c hll (by omega)
    have pin1 :=q03 all c hll
    have pinN1 :=qx1 all c hll (by omega)
    refine qat hC ?_
    conv=>whnf
    refine qc0 hS bh (Nat.le_of_ble_eq_true rfl) [] [] rfl (fun _ h => nomatch h) (ob2 rfl rfl) (ob2 rfl rfl) ?_
    conv=>whnf
    refine qee hE hS (A :=Nat × NS × AV × List AObj × Nat) [] (fun x hx => hx) [3,5,7,9,10,12,24,25,26,43] (fun (k,_,v,_,_) => [(8,v),(44,nv k)]) (fun (_,s,_,_,g) => [(3,.cells (.node (nv s.2.1) (.node (nv s.2.2) .nil .nil) .nil) 2 24)]) (fun a => a.2.2.2.1) (fun (k,s,v,ux,g) => k ≤ 2 ∧ s = (preC all n d (gn all i) k).foldl (cand n d) s0 ∧ NB s (2 * i + k) ∧ (s.1 = [] ∧ v = .nils ∧ ux = [] ∨ s.1 ≠ [] ∧ v = .lst (flat (zp (s.1))) (zp (s.1)).length (.ch 4) ∧ ux = [.chain (zp (s.1)).length 2 24] ∧ 1 ≤ k)) (fun (k,_,_,_,_) => 2 - k) (0,s,.nils,[],0) (Nat.le_of_ble_eq_true rfl) trivial rfl (by repeat' (first | exact bz lT | exact bz lN | exact bz lA | exact qaj (qag _) | exact bz lS2 | exact bz lM2 | exact zZ | apply And.intro)) (by refine ⟨rfl,rfl,rfl,rfl,rfl,rfl,by decide,?_,?_,?_,by kernel_rfl,?_,?_⟩ <;> repeat' (first | exact bz lT | exact bz lN | exact bz lA | exact qaj (qag _) | exact bz lS2 | exact bz lM2 | exact ⟨_,rfl,RnV.wk (WkV.refl _) (bz lA)⟩ | exact ⟨_,rfl,rnK (Nat.le_of_ble_eq_true rfl) (qag _)⟩ | exact zZ | apply And.intro)) ⟨Nat.zero_le _,hss.symm,hnb,.inl ⟨e0,rfl,rfl⟩⟩ ?_
    clear hnb e0
    rintro ⟨k1,s,v,ux,g⟩ ⟨hk2,hs1,hnb,hR⟩ M hM
    rcases hR with ⟨e0,rfl,rfl⟩ | ⟨hne,rfl,rfl,hk0⟩
    ·obtain rfl:M = 4 :=hM
     rcases (show k1 = 0 ∨ k1 = 1 ∨ k1 = 2 by omega) with rfl | rfl | rfl
     ·conv=>whnf
      by_cases hin0:1 ≤ c
      ·refine qab hC (pin0 hin0) ?_
       conv=>whnf
       refine qaa ((show inR (IntKind.i64.wrap (Int.ofNat c - 1)) (zl all).length = true by rw [hc0w hin0];exact qaf (by rw [qax];omega))) ?_
       conv=>whnf
       refine qac (nthP (show nth (ivs (zl all)) ((IntKind.i64.wrap (Int.ofNat c - 1)).toNat * 1) = some (nv (gn all (c - 1))) by rw [hc0w hin0];show nth (ivs (zl all)) ((c - 1) * 1) = _;rw [qa4 (by rw [qax];omega),qcw all (by omega)])) ?_
       conv=>whnf
       have hc0 :=hca0 hin0
       refine Exists.elim1 (⟨_,rfl⟩ : ∃ q0,q0 = redF (gn all i) (gn all (c - 1))) fun q0 hq0 => ?_
       rw [← hq0] at hc0
       have hA0 :=hA00 q0 hq0
       refine qab hC (hc0.red) ?_
       conv=>whnf
       refine qab hC (hc0.dis) ?_
       conv=>whnf
       have heA:cand n d s q0 = ([q0],dQ n d q0) :=qj8 (.inl e0)
       refine zd hS ?_
       conv=>whnf
       refine qab hC (cmpQ (e :=dQ n d q0) (f :=dQ n d q0) hc0.b1 hc0.b2 hc0.b1 hc0.b2) ?_
       conv=>whnf
       repeat ((first
        |refine qam ((qao rfl)) ?_
        |refine qal ((qao rfl)) ?_
        |refine qac (qah ((qao rfl))) ?_
        |refine qaa ((qao rfl)) ?_
        |refine qaz ((qao rfl)) ?_
        |refine qa0 ((qao rfl)) ?_
        |refine qac (qar ((qao rfl))) ?_
        |refine qad ((qao rfl)) ?_
        |refine qab hC (qb6 q0) ?_
        |refine zd hS ?_);conv=>whnf)
       exact ⟨(1,([q0],dQ n d q0),.lst (flat (zp ([q0]))) (zp ([q0])).length (.ch 4),[.chain (zp ([q0])).length 2 24],g),[9],⟨by decide,hA0 s hs1 hin0 heA,hnb.one hc0.b1 hc0.b2,.inr ⟨(fun e => nomatch e),rfl,rfl,by decide⟩⟩,by show 2 - 1 < 2 - 0;decide,(by refine ⟨rfl,rfl,rfl,rfl,rfl,rfl,by decide,?_,?_,?_,by kernel_rfl,?_,?_⟩ <;> repeat' (first | exact bz lT | exact bz lN | exact bz lA | exact qaj (qag _) | exact bz lS2 | exact bz lM2 | exact ⟨_,rfl,RnV.wk (WkV.refl _) (bz lA)⟩ | exact ⟨_,rfl,RnV.wk (WkV.int hw0) (Nat.zero_le _)⟩ | exact ⟨_,rfl,rnK (Nat.le_of_ble_eq_true rfl) (qag _)⟩ | exact ⟨_,rfl,rnC (j :=0) (by decide) rfl rfl (qag _)⟩ | exact ⟨_,rfl,rnC (j :=0) (by decide) rfl rfl (qag (zp [q0]))⟩ | exact ⟨_,rfl,rnB (j :=0) (by decide) rfl rfl⟩ | exact ⟨_,rfl,rnW (Nat.le_of_ble_eq_true rfl)⟩ | exact chB _ _ | exact OWk.eq (chB _ _) | exact zZ | apply And.intro))⟩
      ·refine qab hC (pinN0 hin0) ?_
       conv=>whnf
       exact ⟨(1,s,.nils,[],g),[],⟨by decide,hN0 s hs1 hin0,hnb.up,.inl ⟨e0,rfl,rfl⟩⟩,by show 2 - 1 < 2 - 0;decide,(by refine ⟨rfl,rfl,rfl,rfl,rfl,rfl,by decide,?_,?_,?_,by kernel_rfl,?_,?_⟩ <;> repeat' (first | exact bz lT | exact bz lN | exact bz lA | exact qaj (qag _) | exact bz lS2 | exact bz lM2 | exact ⟨_,rfl,RnV.wk (WkV.refl _) (bz lA)⟩ | exact ⟨_,rfl,RnV.wk (WkV.int hw0) (Nat.zero_le _)⟩ | exact ⟨_,rfl,rnK (Nat.le_of_ble_eq_true rfl) (qag _)⟩ | exact ⟨_,rfl,rnC (j :=0) (by decide) rfl rfl (qag _)⟩ | exact ⟨_,rfl,rnC (j :=0) (by decide) rfl rfl (qag (zp [q0]))⟩ | exact ⟨_,rfl,rnB (j :=0) (by decide) rfl rfl⟩ | exact ⟨_,rfl,rnW (Nat.le_of_ble_eq_true rfl)⟩ | exact chB _ _ | exact OWk.eq (chB _ _) | exact zZ | apply And.intro))⟩
     ·conv=>whnf
      by_cases hin1:c < all.length
      ·refine qab hC (pin1 hin1) ?_
       conv=>whnf
       refine qaa (qaf (show c < (zl all).length by rw [qax];exact hin1)) ?_
       conv=>whnf
       refine qac (nthP (show nth (ivs (zl all)) (c * 1) = some (nv (gn all c)) by rw [qa4 (by rw [qax];exact hin1),qcw all hin1])) ?_
       conv=>whnf
       have hc1 :=hca1 hin1
       refine Exists.elim1 (⟨_,rfl⟩ : ∃ q1,q1 = redF (gn all i) (gn all c)) fun q1 hq1 => ?_
       rw [← hq1] at hc1
       have hA1 :=hA10 q1 hq1
       refine qab hC (hc1.red) ?_
       conv=>whnf
       refine qab hC (hc1.dis) ?_
       conv=>whnf
       have heA:cand n d s q1 = ([q1],dQ n d q1) :=qj8 (.inl e0)
       refine zd hS ?_
       conv=>whnf
       refine qab hC (cmpQ (e :=dQ n d q1) (f :=dQ n d q1) hc1.b1 hc1.b2 hc1.b1 hc1.b2) ?_
       conv=>whnf
       repeat ((first
        |refine qam ((qao rfl)) ?_
        |refine qal ((qao rfl)) ?_
        |refine qac (qah ((qao rfl))) ?_
        |refine qaa ((qao rfl)) ?_
        |refine qaz ((qao rfl)) ?_
        |refine qa0 ((qao rfl)) ?_
        |refine qac (qar ((qao rfl))) ?_
        |refine qad ((qao rfl)) ?_
        |refine qab hC (qb6 q1) ?_
        |refine zd hS ?_);conv=>whnf)
       exact ⟨(2,([q1],dQ n d q1),.lst (flat (zp ([q1]))) (zp ([q1])).length (.ch 4),[.chain (zp ([q1])).length 2 24],g),[9],⟨by decide,hA1 s hs1 hin1 heA,hnb.one hc1.b1 hc1.b2,.inr ⟨(fun e => nomatch e),rfl,rfl,by decide⟩⟩,by show 2 - 2 < 2 - 1;decide,(by refine ⟨rfl,rfl,rfl,rfl,rfl,rfl,by decide,?_,?_,?_,by kernel_rfl,?_,?_⟩ <;> repeat' (first | exact bz lT | exact bz lN | exact bz lA | exact qaj (qag _) | exact bz lS2 | exact bz lM2 | exact ⟨_,rfl,RnV.wk (WkV.refl _) (bz lA)⟩ | exact ⟨_,rfl,RnV.wk (WkV.int hw1) (Nat.zero_le _)⟩ | exact ⟨_,rfl,rnK (Nat.le_of_ble_eq_true rfl) (qag _)⟩ | exact ⟨_,rfl,rnC (j :=0) (by decide) rfl rfl (qag _)⟩ | exact ⟨_,rfl,rnC (j :=0) (by decide) rfl rfl (qag (zp [q1]))⟩ | exact ⟨_,rfl,rnB (j :=0) (by decide) rfl rfl⟩ | exact ⟨_,rfl,rnW (Nat.le_of_ble_eq_true rfl)⟩ | exact chB _ _ | exact OWk.eq (chB _ _) | exact zZ | apply And.intro))⟩
      ·refine qab hC (pinN1 hin1) ?_
       conv=>whnf
       exact ⟨(2,s,.nils,[],g),[],⟨by decide,hN1 s hs1 hin1,hnb.up,.inl ⟨e0,rfl,rfl⟩⟩,by show 2 - 2 < 2 - 1;decide,(by refine ⟨rfl,rfl,rfl,rfl,rfl,rfl,by decide,?_,?_,?_,by kernel_rfl,?_,?_⟩ <;> repeat' (first | exact bz lT | exact bz lN | exact bz lA | exact qaj (qag _) | exact bz lS2 | exact bz lM2 | exact ⟨_,rfl,RnV.wk (WkV.refl _) (bz lA)⟩ | exact ⟨_,rfl,RnV.wk (WkV.int hw1) (Nat.zero_le _)⟩ | exact ⟨_,rfl,rnK (Nat.le_of_ble_eq_true rfl) (qag _)⟩ | exact ⟨_,rfl,rnC (j :=0) (by decide) rfl rfl (qag _)⟩ | exact ⟨_,rfl,rnC (j :=0) (by decide) rfl rfl (qag (zp [q1]))⟩ | exact ⟨_,rfl,rnB (j :=0) (by decide) rfl rfl⟩ | exact ⟨_,rfl,rnW (Nat.le_of_ble_eq_true rfl)⟩ | exact chB _ _ | exact OWk.eq (chB _ _) | exact zZ | apply And.intro))⟩
     ·exact absurd e0 (by rw [hs1];exact hnn2)
    ·obtain rfl:M = 5 :=hM
     rcases (show k1 = 0 ∨ k1 = 1 ∨ k1 = 2 by omega) with rfl | rfl | rfl
     ·exact absurd hk0 (by decide)
     ·conv=>whnf
      by_cases hin1:c < all.length
      ·refine qab hC (pin1 hin1) ?_
       conv=>whnf
       refine qaa (qaf (show c < (zl all).length by rw [qax];exact hin1)) ?_
       conv=>whnf
       refine qac (nthP (show nth (ivs (zl all)) (c * 1) = some (nv (gn all c)) by rw [qa4 (by rw [qax];exact hin1),qcw all hin1])) ?_
       conv=>whnf
       have hc1 :=hca1 hin1
       refine Exists.elim1 (⟨_,rfl⟩ : ∃ q1,q1 = redF (gn all i) (gn all c)) fun q1 hq1 => ?_
       rw [← hq1] at hc1
       have hA1 :=hA10 q1 hq1
       refine qab hC (hc1.red) ?_
       conv=>whnf
       refine qab hC (hc1.dis) ?_
       conv=>whnf
       repeat ((first
        |refine qam ((qbn hne)) ?_
        |refine qal ((qbn hne)) ?_
        |refine qac (qah ((qbn hne))) ?_
        |refine qaa ((qbn hne)) ?_
        |refine qaz ((qbn hne)) ?_
        |refine qa0 ((qbn hne)) ?_
        |refine qac (qar ((qbn hne))) ?_
        |refine qad ((qbn hne)) ?_
        |refine qab hC (cmpQ (e :=dQ n d q1) (f :=s.2) hc1.b1 hc1.b2 hnb.e1 hnb.e2) ?_
        |refine zd hS ?_);conv=>whnf)
       by_cases hlt:(dQ n d q1).1 * s.2.2 < s.2.1 * (dQ n d q1).2
       ·refine qaa (qpa hlt) ?_
        conv=>whnf
        have heA:cand n d s q1 = ([q1],dQ n d q1) :=qj8 (.inr hlt)
        refine zd hS ?_
        conv=>whnf
        refine qab hC (cmpQ (e :=dQ n d q1) (f :=dQ n d q1) hc1.b1 hc1.b2 hc1.b1 hc1.b2) ?_
        conv=>whnf
        repeat ((first
         |refine qam ((qao rfl)) ?_
         |refine qal ((qao rfl)) ?_
         |refine qac (qah ((qao rfl))) ?_
         |refine qaa ((qao rfl)) ?_
         |refine qaz ((qao rfl)) ?_
         |refine qa0 ((qao rfl)) ?_
         |refine qac (qar ((qao rfl))) ?_
         |refine qad ((qao rfl)) ?_
         |refine qab hC (qb6 q1) ?_
         |refine zd hS ?_);conv=>whnf)
        exact ⟨(2,([q1],dQ n d q1),.lst (flat (zp ([q1]))) (zp ([q1])).length (.ch 4),[.chain (zp ([q1])).length 2 24],g),[10],⟨by decide,hA1 s hs1 hin1 heA,hnb.one hc1.b1 hc1.b2,.inr ⟨(fun e => nomatch e),rfl,rfl,by decide⟩⟩,by show 2 - 2 < 2 - 1;decide,(by refine ⟨rfl,rfl,rfl,rfl,rfl,rfl,by decide,?_,?_,?_,by kernel_rfl,?_,?_⟩ <;> repeat' (first | exact bz lT | exact bz lN | exact bz lA | exact qaj (qag _) | exact bz lS2 | exact bz lM2 | exact ⟨_,rfl,RnV.wk (WkV.refl _) (bz lA)⟩ | exact ⟨_,rfl,RnV.wk (WkV.int hw1) (Nat.zero_le _)⟩ | exact ⟨_,rfl,rnK (Nat.le_of_ble_eq_true rfl) (qag _)⟩ | exact ⟨_,rfl,rnC (j :=0) (by decide) rfl rfl (qag _)⟩ | exact ⟨_,rfl,rnC (j :=0) (by decide) rfl rfl (qag (zp [q1]))⟩ | exact ⟨_,rfl,rnB (j :=0) (by decide) rfl rfl⟩ | exact ⟨_,rfl,rnW (Nat.le_of_ble_eq_true rfl)⟩ | exact chB _ _ | exact OWk.eq (chB _ _) | exact zZ | apply And.intro))⟩
       ·refine qad (qpb hlt) ?_
        conv=>whnf
        refine qab hC (cmpQ (e :=dQ n d q1) (f :=s.2) hc1.b1 hc1.b2 hnb.e1 hnb.e2) ?_
        conv=>whnf
        by_cases heq:(dQ n d q1).1 * s.2.2 = s.2.1 * (dQ n d q1).2
        ·repeat ((first
          |refine qam ((qao heq)) ?_
          |refine qal ((qao heq)) ?_
          |refine qac (qah ((qao heq))) ?_
          |refine qaa ((qao heq)) ?_
          |refine qaz ((qao heq)) ?_
          |refine qa0 ((qao heq)) ?_
          |refine qac (qar ((qao heq))) ?_
          |refine qad ((qao heq)) ?_
          |refine zd hS ?_);conv=>whnf)
         refine qbp hC (cqW s.1 (by have :=hnb.ln;omega) q1 _) ?_
         conv=>whnf
         by_cases hm:q1 ∈ s.1
         ·repeat ((first
           |refine qam ((qao heq)) ?_
           |refine qal ((qao heq)) ?_
           |refine qac (qah ((qao heq))) ?_
           |refine qaa ((qao heq)) ?_
           |refine qaz ((qao heq)) ?_
           |refine qa0 ((qao heq)) ?_
           |refine qac (qar ((qao heq))) ?_
           |refine qad ((qao heq)) ?_
           |refine qam ((qbl hm)) ?_
           |refine qal ((qbl hm)) ?_
           |refine qac (qah ((qbl hm))) ?_
           |refine qaa ((qbl hm)) ?_
           |refine qaz ((qbl hm)) ?_
           |refine qa0 ((qbl hm)) ?_
           |refine qac (qar ((qbl hm))) ?_
           |refine qad ((qbl hm)) ?_
           |refine zd hS ?_);conv=>whnf)
          have heA:cand n d s q1 = s :=qhi hne hlt fun h => h.2 hm
          exact ⟨(2,s,.lst (flat (zp (s.1))) (zp (s.1)).length (.ch 4),[.chain (zp (s.1)).length 2 24],g),[4],⟨by decide,hA1 s hs1 hin1 heA,hnb.up,.inr ⟨hne,rfl,rfl,by decide⟩⟩,by show 2 - 2 < 2 - 1;decide,(by refine ⟨rfl,rfl,rfl,rfl,rfl,rfl,by decide,?_,?_,?_,by kernel_rfl,?_,?_⟩ <;> repeat' (first | exact bz lT | exact bz lN | exact bz lA | exact qaj (qag _) | exact bz lS2 | exact bz lM2 | exact ⟨_,rfl,RnV.wk (WkV.refl _) (bz lA)⟩ | exact ⟨_,rfl,RnV.wk (WkV.int hw1) (Nat.zero_le _)⟩ | exact ⟨_,rfl,rnK (Nat.le_of_ble_eq_true rfl) (qag _)⟩ | exact ⟨_,rfl,rnC (j :=0) (by decide) rfl rfl (qag _)⟩ | exact ⟨_,rfl,rnC (j :=0) (by decide) rfl rfl (qag (zp [q1]))⟩ | exact ⟨_,rfl,rnB (j :=0) (by decide) rfl rfl⟩ | exact ⟨_,rfl,rnW (Nat.le_of_ble_eq_true rfl)⟩ | exact chB _ _ | exact OWk.eq (chB _ _) | exact zZ | apply And.intro))⟩
         ·repeat ((first
           |refine qam ((qao heq)) ?_
           |refine qal ((qao heq)) ?_
           |refine qac (qah ((qao heq))) ?_
           |refine qaa ((qao heq)) ?_
           |refine qaz ((qao heq)) ?_
           |refine qa0 ((qao heq)) ?_
           |refine qac (qar ((qao heq))) ?_
           |refine qad ((qao heq)) ?_
           |refine qam ((qbm hm)) ?_
           |refine qal ((qbm hm)) ?_
           |refine qac (qah ((qbm hm))) ?_
           |refine qaa ((qbm hm)) ?_
           |refine qaz ((qbm hm)) ?_
           |refine qa0 ((qbm hm)) ?_
           |refine qac (qar ((qbm hm))) ?_
           |refine qad ((qbm hm)) ?_
           |refine zd hS ?_);conv=>whnf)
          have heA:cand n d s q1 = (s.1 ++ [q1],s.2) :=qqq hne hlt heq hm
          have hzl :=qa9 s.1
          have hln :=hnb.ln
          refine qaa (zT (show ((zp s.1).length + (0 + 1)) * 16 ≤ 140737488355328 by omega)) ?_
          conv=>whnf
          refine qaa (zT (show (zp s.1).length + (0 + 1) ≤ 9223372036854775807 by omega)) ?_
          conv=>whnf
          refine qaa (qcz s.1) ?_
          conv=>whnf
          refine qaa (zT rfl) ?_
          conv=>whnf
          exact ⟨(2,(s.1 ++ [q1],s.2),.lst (flat (zp (s.1 ++ [q1]))) (zp (s.1 ++ [q1])).length (.ch 4),[.chain (zp (s.1 ++ [q1])).length 2 24],g),[4],⟨by decide,hA1 s hs1 hin1 heA,hnb.more _,.inr ⟨(by simp),rfl,rfl,by decide⟩⟩,by show 2 - 2 < 2 - 1;decide,(by refine ⟨rfl,rfl,rfl,rfl,rfl,rfl,by decide,?_,?_,?_,by kernel_rfl,?_,?_⟩ <;> repeat' (first | exact bz lT | exact bz lN | exact bz lA | exact qaj (qag _) | exact bz lS2 | exact bz lM2 | exact ⟨_,rfl,RnV.wk (WkV.refl _) (bz lA)⟩ | exact ⟨_,rfl,RnV.wk (WkV.int hw1) (Nat.zero_le _)⟩ | exact ⟨_,rfl,rnK (Nat.le_of_ble_eq_true rfl) (qag _)⟩ | exact ⟨_,rfl,rnC (j :=0) (by decide) rfl rfl (qag _)⟩ | exact ⟨_,rfl,rnC (j :=0) (by decide) rfl rfl (qag (zp [q1]))⟩ | exact ⟨_,rfl,rnB (j :=0) (by decide) rfl rfl⟩ | exact ⟨_,rfl,rnW (Nat.le_of_ble_eq_true rfl)⟩ | exact chB _ _ | exact OWk.eq (chB _ _) | exact zZ | apply And.intro))⟩
        ·repeat ((first
          |refine qam ((qbk heq)) ?_
          |refine qal ((qbk heq)) ?_
          |refine qac (qah ((qbk heq))) ?_
          |refine qaa ((qbk heq)) ?_
          |refine qaz ((qbk heq)) ?_
          |refine qa0 ((qbk heq)) ?_
          |refine qac (qar ((qbk heq))) ?_
          |refine qad ((qbk heq)) ?_
          |refine zd hS ?_);conv=>whnf)
         have heA:cand n d s q1 = s :=qhi hne hlt fun h => heq h.1
         exact ⟨(2,s,.lst (flat (zp (s.1))) (zp (s.1)).length (.ch 4),[.chain (zp (s.1)).length 2 24],g),[4],⟨by decide,hA1 s hs1 hin1 heA,hnb.up,.inr ⟨hne,rfl,rfl,by decide⟩⟩,by show 2 - 2 < 2 - 1;decide,(by refine ⟨rfl,rfl,rfl,rfl,rfl,rfl,by decide,?_,?_,?_,by kernel_rfl,?_,?_⟩ <;> repeat' (first | exact bz lT | exact bz lN | exact bz lA | exact qaj (qag _) | exact bz lS2 | exact bz lM2 | exact ⟨_,rfl,RnV.wk (WkV.refl _) (bz lA)⟩ | exact ⟨_,rfl,RnV.wk (WkV.int hw1) (Nat.zero_le _)⟩ | exact ⟨_,rfl,rnK (Nat.le_of_ble_eq_true rfl) (qag _)⟩ | exact ⟨_,rfl,rnC (j :=0) (by decide) rfl rfl (qag _)⟩ | exact ⟨_,rfl,rnC (j :=0) (by decide) rfl rfl (qag (zp [q1]))⟩ | exact ⟨_,rfl,rnB (j :=0) (by decide) rfl rfl⟩ | exact ⟨_,rfl,rnW (Nat.le_of_ble_eq_true rfl)⟩ | exact chB _ _ | exact OWk.eq (chB _ _) | exact zZ | apply And.intro))⟩
      ·refine qab hC (pinN1 hin1) ?_
       conv=>whnf
       exact ⟨(2,s,.lst (flat (zp (s.1))) (zp (s.1)).length (.ch 4),[.chain (zp (s.1)).length 2 24],g),[4],⟨by decide,hN1 s hs1 hin1,hnb.up,.inr ⟨hne,rfl,rfl,by decide⟩⟩,by show 2 - 2 < 2 - 1;decide,(by refine ⟨rfl,rfl,rfl,rfl,rfl,rfl,by decide,?_,?_,?_,by kernel_rfl,?_,?_⟩ <;> repeat' (first | exact bz lT | exact bz lN | exact bz lA | exact qaj (qag _) | exact bz lS2 | exact bz lM2 | exact ⟨_,rfl,RnV.wk (WkV.refl _) (bz lA)⟩ | exact ⟨_,rfl,RnV.wk (WkV.int hw1) (Nat.zero_le _)⟩ | exact ⟨_,rfl,rnK (Nat.le_of_ble_eq_true rfl) (qag _)⟩ | exact ⟨_,rfl,rnC (j :=0) (by decide) rfl rfl (qag _)⟩ | exact ⟨_,rfl,rnC (j :=0) (by decide) rfl rfl (qag (zp [q1]))⟩ | exact ⟨_,rfl,rnB (j :=0) (by decide) rfl rfl⟩ | exact ⟨_,rfl,rnW (Nat.le_of_ble_eq_true rfl)⟩ | exact chB _ _ | exact OWk.eq (chB _ _) | exact zZ | apply And.intro))⟩
     ·conv=>whnf
      exact ⟨(i + 1,s,.lst (flat (zp (s.1))) (zp (s.1)).length (.ch 4),[.chain (zp (s.1)).length 2 24]),[4],⟨hi,by rw [hs1];exact hstep.symm,hnb,.inr ⟨hne,rfl,rfl⟩⟩,by show all.length - (i + 1) < all.length - i;omega,(by refine ⟨rfl,rfl,rfl,rfl,rfl,rfl,by decide,?_,?_,?_,by kernel_rfl,?_,?_⟩ <;> repeat' (first | exact bz lT | exact bz lN | exact bz lA | exact qaj (qag _) | exact bz lS2 | exact bz lM2 | exact ⟨_,rfl,RnV.wk (WkV.refl _) (bz lA)⟩ | exact ⟨_,rfl,RnV.wk (WkV.int (hi1 hi)) (Nat.zero_le _)⟩ | exact ⟨_,rfl,rnC (j :=0) (by decide) rfl rfl (qag _)⟩ | exact zZ | apply And.intro))⟩
   ·refine qad ((show decide (Int.ofNat i < ((zl all).length:Int)) = false from zF (by rw [qax];show ¬ (i:Int) < _;omega))) ?_
    conv=>whnf
    have ei:i = all.length :=by omega
    have hs:s = qdt all n d :=by rw [hs,ei,List.take_length];rfl
    refine zd hS ?_
    conv=>whnf
    exact absurd e0 (by rw [hs];exact hnf)
  ·obtain rfl:M = 5 :=hM
   conv=>whnf
   by_cases hi:i < all.length
   ·refine qaa ((show decide (Int.ofNat i < ((zl all).length:Int)) = true from zT (by rw [qax];show (i:Int) < _;omega))) ?_
    conv=>whnf
    refine qaa (qaf (show i < (zl all).length by rw [qax];exact hi)) ?_
    conv=>whnf
    refine qac (nthP (show nth (ivs (zl all)) (i * 1) = some (nv (gn all i)) by rw [qa4 (by rw [qax];exact hi),qcw all hi])) ?_
    conv=>whnf
    have hx :=hal _ (qbd all hi)
    have hmu:gn all i * d ≤ 216000 * 50000 :=Nat.mul_le_mul hx.2 hd.2
    have bh :=bs_w hW n d hn all hsr hll (fun x hx => (hal x hx).2) (gn all i) (by omega)
    have hcl :=qi4 n (gn all i * d) all
    have hstep :=qmp all n d hi
    rw [← hs] at hstep
    have hco :=(qej hsr (fun x hx => (hal x hx).1) (N :=n) (D :=d) hd.1 (qbd all hi))
    have hca0:1 ≤ cntB n (gn all i * d) all → CaF n d (gn all i) (gn all (cntB n (gn all i * d) all - 1)) (redF (gn all i) (gn all (cntB n (gn all i * d) all - 1))) :=fun h => caF hn hd hx.2 (hal _ (qbd all (by omega)))
    have hca1:cntB n (gn all i * d) all < all.length → CaF n d (gn all i) (gn all (cntB n (gn all i * d) all)) (redF (gn all i) (gn all (cntB n (gn all i * d) all))) :=fun h => caF hn hd hx.2 (hal _ (qbd all h))
    have hAs :=qxu all n d (gn all i) s
    have hnn2:((preC all n d (gn all i) 2).foldl (cand n d) s).1 ≠ [] :=qs9 all n d (gn all i) s (by omega)
    refine Exists.elim1 (⟨_,rfl⟩ : ∃ c,c = cntB n (gn all i * d) all) fun c hcc => ?_
    rw [← hcc] at hcl hca0 hca1 hAs bh
    refine Exists.elim1 (⟨_,rfl⟩ : ∃ s0,s0 = s) fun s0 hss => ?_
    have hstep:qfo n d ((all.take (i + 1)).flatMap (qbv all n d)) = (preC all n d (gn all i) 2).foldl (cand n d) s0 :=by rw [hss];exact hstep
    rw [← hss] at hAs hnn2
    have hA00 :=hAs.a0
    have hA10 :=hAs.a1
    have hN0 :=hAs.n0
    have hN1 :=hAs.n1
    have hc0w:1 ≤ c → IntKind.i64.wrap (Int.ofNat c - 1) = Int.ofNat (c - 1) :=fun h => qfg h (by omega)
    have hw0:IntKind.i64.wrap (Int.ofNat 0 + 1) = Int.ofNat 1 :=qas (by decide) (by decide)
    have hw1:IntKind.i64.wrap (Int.ofNat 1 + 1) = Int.ofNat 2 :=qas (by decide) (by decide)
    have pin0 :=q04 all c hll hcl
    have pinN0 :=qx2 all c hll (by omega)
    have pin1 :=q03 all c hll
    have pinN1 :=qx1 all c hll (by omega)
    refine qat hC ?_
    conv=>whnf
    refine qc0 hS bh (Nat.le_of_ble_eq_true rfl) [] [] rfl (fun _ h => nomatch h) (ob2 rfl rfl) (ob2 rfl rfl) ?_
    conv=>whnf
    refine qee hE hS (A :=Nat × NS × AV × List AObj × Nat) [] (fun x hx => hx) [3,5,7,9,10,12,24,25,26,43] (fun (k,_,v,_,_) => [(8,v),(44,nv k)]) (fun (_,s,_,_,g) => [(3,.cells (.node (nv s.2.1) (.node (nv s.2.2) .nil .nil) .nil) 2 24),(4,.chain g 2 24)]) (fun a => a.2.2.2.1) (fun (k,s,v,ux,g) => k ≤ 2 ∧ s = (preC all n d (gn all i) k).foldl (cand n d) s0 ∧ NB s (2 * i + k) ∧ (s.1 ≠ [] ∧ v = .lst (flat (zp (s.1))) (zp (s.1)).length (.ch 4) ∧ ux = [] ∧ g = (zp s.1).length ∨ s.1 ≠ [] ∧ v = .lst (flat (zp (s.1))) (zp (s.1)).length (.ch 5) ∧ ux = [.chain (zp (s.1)).length 2 24] ∧ 1 ≤ k)) (fun (k,_,_,_,_) => 2 - k) (0,s,.lst (flat (zp (s.1))) (zp (s.1)).length (.ch 4),[],(zp s.1).length) (Nat.le_of_ble_eq_true rfl) trivial rfl (by repeat' (first | exact bz lT | exact bz lN | exact bz lA | exact qaj (qag _) | exact bz lS2 | exact bz lM2 | exact zZ | apply And.intro)) (by refine ⟨rfl,rfl,rfl,rfl,rfl,rfl,by decide,?_,?_,?_,by kernel_rfl,?_,?_⟩ <;> repeat' (first | exact bz lT | exact bz lN | exact bz lA | exact qaj (qag _) | exact bz lS2 | exact bz lM2 | exact ⟨_,rfl,RnV.wk (WkV.refl _) (bz lA)⟩ | exact ⟨_,rfl,rnK (Nat.le_of_ble_eq_true rfl) (qag _)⟩ | exact zZ | apply And.intro)) ⟨Nat.zero_le _,hss.symm,hnb,.inl ⟨hne,rfl,rfl,rfl⟩⟩ ?_
    clear hnb hne
    rintro ⟨k1,s,v,ux,g⟩ ⟨hk2,hs1,hnb,hR⟩ M hM
    rcases hR with ⟨hne,rfl,rfl,rfl⟩ | ⟨hne,rfl,rfl,hk0⟩
    ·obtain rfl:M = 5 :=hM
     rcases (show k1 = 0 ∨ k1 = 1 ∨ k1 = 2 by omega) with rfl | rfl | rfl
     ·conv=>whnf
      by_cases hin0:1 ≤ c
      ·refine qab hC (pin0 hin0) ?_
       conv=>whnf
       refine qaa ((show inR (IntKind.i64.wrap (Int.ofNat c - 1)) (zl all).length = true by rw [hc0w hin0];exact qaf (by rw [qax];omega))) ?_
       conv=>whnf
       refine qac (nthP (show nth (ivs (zl all)) ((IntKind.i64.wrap (Int.ofNat c - 1)).toNat * 1) = some (nv (gn all (c - 1))) by rw [hc0w hin0];show nth (ivs (zl all)) ((c - 1) * 1) = _;rw [qa4 (by rw [qax];omega),qcw all (by omega)])) ?_
       conv=>whnf
       have hc0 :=hca0 hin0
       refine Exists.elim1 (⟨_,rfl⟩ : ∃ q0,q0 = redF (gn all i) (gn all (c - 1))) fun q0 hq0 => ?_
       rw [← hq0] at hc0
       have hA0 :=hA00 q0 hq0
       refine qab hC (hc0.red) ?_
       conv=>whnf
       refine qab hC (hc0.dis) ?_
       conv=>whnf
       repeat ((first
        |refine qam ((qbn hne)) ?_
        |refine qal ((qbn hne)) ?_
        |refine qac (qah ((qbn hne))) ?_
        |refine qaa ((qbn hne)) ?_
        |refine qaz ((qbn hne)) ?_
        |refine qa0 ((qbn hne)) ?_
        |refine qac (qar ((qbn hne))) ?_
        |refine qad ((qbn hne)) ?_
        |refine qab hC (cmpQ (e :=dQ n d q0) (f :=s.2) hc0.b1 hc0.b2 hnb.e1 hnb.e2) ?_
        |refine zd hS ?_);conv=>whnf)
       by_cases hlt:(dQ n d q0).1 * s.2.2 < s.2.1 * (dQ n d q0).2
       ·refine qaa (qpa hlt) ?_
        conv=>whnf
        have heA:cand n d s q0 = ([q0],dQ n d q0) :=qj8 (.inr hlt)
        refine zd hS ?_
        conv=>whnf
        refine qab hC (cmpQ (e :=dQ n d q0) (f :=dQ n d q0) hc0.b1 hc0.b2 hc0.b1 hc0.b2) ?_
        conv=>whnf
        repeat ((first
         |refine qam ((qao rfl)) ?_
         |refine qal ((qao rfl)) ?_
         |refine qac (qah ((qao rfl))) ?_
         |refine qaa ((qao rfl)) ?_
         |refine qaz ((qao rfl)) ?_
         |refine qa0 ((qao rfl)) ?_
         |refine qac (qar ((qao rfl))) ?_
         |refine qad ((qao rfl)) ?_
         |refine qab hC (qb6 q0) ?_
         |refine zd hS ?_);conv=>whnf)
        exact ⟨(1,([q0],dQ n d q0),.lst (flat (zp ([q0]))) (zp ([q0])).length (.ch 5),[.chain (zp ([q0])).length 2 24],(zp s.1).length),[10],⟨by decide,hA0 s hs1 hin0 heA,hnb.one hc0.b1 hc0.b2,.inr ⟨(fun e => nomatch e),rfl,rfl,by decide⟩⟩,by show 2 - 1 < 2 - 0;decide,(by refine ⟨rfl,rfl,rfl,rfl,rfl,rfl,by decide,?_,?_,?_,by kernel_rfl,?_,?_⟩ <;> repeat' (first | exact bz lT | exact bz lN | exact bz lA | exact qaj (qag _) | exact bz lS2 | exact bz lM2 | exact ⟨_,rfl,RnV.wk (WkV.refl _) (bz lA)⟩ | exact ⟨_,rfl,RnV.wk (WkV.int hw0) (Nat.zero_le _)⟩ | exact ⟨_,rfl,rnK (Nat.le_of_ble_eq_true rfl) (qag _)⟩ | exact ⟨_,rfl,rnC (j :=0) (by decide) rfl rfl (qag _)⟩ | exact ⟨_,rfl,rnC (j :=0) (by decide) rfl rfl (qag (zp [q0]))⟩ | exact ⟨_,rfl,rnB (j :=0) (by decide) rfl rfl⟩ | exact ⟨_,rfl,rnW (Nat.le_of_ble_eq_true rfl)⟩ | exact chB _ _ | exact OWk.eq (chB _ _) | exact zZ | apply And.intro))⟩
       ·refine qad (qpb hlt) ?_
        conv=>whnf
        refine qab hC (cmpQ (e :=dQ n d q0) (f :=s.2) hc0.b1 hc0.b2 hnb.e1 hnb.e2) ?_
        conv=>whnf
        by_cases heq:(dQ n d q0).1 * s.2.2 = s.2.1 * (dQ n d q0).2
        ·repeat ((first
          |refine qam ((qao heq)) ?_
          |refine qal ((qao heq)) ?_
          |refine qac (qah ((qao heq))) ?_
          |refine qaa ((qao heq)) ?_
          |refine qaz ((qao heq)) ?_
          |refine qa0 ((qao heq)) ?_
          |refine qac (qar ((qao heq))) ?_
          |refine qad ((qao heq)) ?_
          |refine zd hS ?_);conv=>whnf)
         refine qbp hC (cqW s.1 (by have :=hnb.ln;omega) q0 _) ?_
         conv=>whnf
         by_cases hm:q0 ∈ s.1
         ·repeat ((first
           |refine qam ((qao heq)) ?_
           |refine qal ((qao heq)) ?_
           |refine qac (qah ((qao heq))) ?_
           |refine qaa ((qao heq)) ?_
           |refine qaz ((qao heq)) ?_
           |refine qa0 ((qao heq)) ?_
           |refine qac (qar ((qao heq))) ?_
           |refine qad ((qao heq)) ?_
           |refine qam ((qbl hm)) ?_
           |refine qal ((qbl hm)) ?_
           |refine qac (qah ((qbl hm))) ?_
           |refine qaa ((qbl hm)) ?_
           |refine qaz ((qbl hm)) ?_
           |refine qa0 ((qbl hm)) ?_
           |refine qac (qar ((qbl hm))) ?_
           |refine qad ((qbl hm)) ?_
           |refine zd hS ?_);conv=>whnf)
          have heA:cand n d s q0 = s :=qhi hne hlt fun h => h.2 hm
          exact ⟨(1,s,.lst (flat (zp (s.1))) (zp (s.1)).length (.ch 4),[],(zp s.1).length),[],⟨by decide,hA0 s hs1 hin0 heA,hnb.up,.inl ⟨hne,rfl,rfl,rfl⟩⟩,by show 2 - 1 < 2 - 0;decide,(by refine ⟨rfl,rfl,rfl,rfl,rfl,rfl,by decide,?_,?_,?_,by kernel_rfl,?_,?_⟩ <;> repeat' (first | exact bz lT | exact bz lN | exact bz lA | exact qaj (qag _) | exact bz lS2 | exact bz lM2 | exact ⟨_,rfl,RnV.wk (WkV.refl _) (bz lA)⟩ | exact ⟨_,rfl,RnV.wk (WkV.int hw0) (Nat.zero_le _)⟩ | exact ⟨_,rfl,rnK (Nat.le_of_ble_eq_true rfl) (qag _)⟩ | exact ⟨_,rfl,rnC (j :=0) (by decide) rfl rfl (qag _)⟩ | exact ⟨_,rfl,rnC (j :=0) (by decide) rfl rfl (qag (zp [q0]))⟩ | exact ⟨_,rfl,rnB (j :=0) (by decide) rfl rfl⟩ | exact ⟨_,rfl,rnW (Nat.le_of_ble_eq_true rfl)⟩ | exact chB _ _ | exact OWk.eq (chB _ _) | exact zZ | apply And.intro))⟩
         ·repeat ((first
           |refine qam ((qao heq)) ?_
           |refine qal ((qao heq)) ?_
           |refine qac (qah ((qao heq))) ?_
           |refine qaa ((qao heq)) ?_
           |refine qaz ((qao heq)) ?_
           |refine qa0 ((qao heq)) ?_
           |refine qac (qar ((qao heq))) ?_
           |refine qad ((qao heq)) ?_
           |refine qam ((qbm hm)) ?_
           |refine qal ((qbm hm)) ?_
           |refine qac (qah ((qbm hm))) ?_
           |refine qaa ((qbm hm)) ?_
           |refine qaz ((qbm hm)) ?_
           |refine qa0 ((qbm hm)) ?_
           |refine qac (qar ((qbm hm))) ?_
           |refine qad ((qbm hm)) ?_
           |refine zd hS ?_);conv=>whnf)
          have heA:cand n d s q0 = (s.1 ++ [q0],s.2) :=qqq hne hlt heq hm
          have hzl :=qa9 s.1
          have hln :=hnb.ln
          refine qaa (zT (show ((zp s.1).length + (0 + 1)) * 16 ≤ 140737488355328 by omega)) ?_
          conv=>whnf
          refine qaa (zT (show (zp s.1).length + (0 + 1) ≤ 9223372036854775807 by omega)) ?_
          conv=>whnf
          refine qaa (qcz s.1) ?_
          conv=>whnf
          refine qaa (zT rfl) ?_
          conv=>whnf
          exact ⟨(1,(s.1 ++ [q0],s.2),.lst (flat (zp (s.1 ++ [q0]))) (zp (s.1 ++ [q0])).length (.ch 4),[],(zp (s.1 ++ [q0])).length),[],⟨by decide,hA0 s hs1 hin0 heA,hnb.more _,.inl ⟨(by simp),rfl,rfl,rfl⟩⟩,by show 2 - 1 < 2 - 0;decide,(by refine ⟨rfl,rfl,rfl,rfl,rfl,rfl,by decide,?_,?_,?_,by kernel_rfl,?_,?_⟩ <;> repeat' (first | exact bz lT | exact bz lN | exact bz lA | exact qaj (qag _) | exact bz lS2 | exact bz lM2 | exact ⟨_,rfl,RnV.wk (WkV.refl _) (bz lA)⟩ | exact ⟨_,rfl,RnV.wk (WkV.int hw0) (Nat.zero_le _)⟩ | exact ⟨_,rfl,rnK (Nat.le_of_ble_eq_true rfl) (qag _)⟩ | exact ⟨_,rfl,rnC (j :=0) (by decide) rfl rfl (qag _)⟩ | exact ⟨_,rfl,rnC (j :=0) (by decide) rfl rfl (qag (zp [q0]))⟩ | exact ⟨_,rfl,rnB (j :=0) (by decide) rfl rfl⟩ | exact ⟨_,rfl,rnW (Nat.le_of_ble_eq_true rfl)⟩ | exact chB _ _ | exact OWk.eq (chB _ _) | exact zZ | apply And.intro))⟩
        ·repeat ((first
          |refine qam ((qbk heq)) ?_
          |refine qal ((qbk heq)) ?_
          |refine qac (qah ((qbk heq))) ?_
          |refine qaa ((qbk heq)) ?_
          |refine qaz ((qbk heq)) ?_
          |refine qa0 ((qbk heq)) ?_
          |refine qac (qar ((qbk heq))) ?_
          |refine qad ((qbk heq)) ?_
          |refine zd hS ?_);conv=>whnf)
         have heA:cand n d s q0 = s :=qhi hne hlt fun h => heq h.1
         exact ⟨(1,s,.lst (flat (zp (s.1))) (zp (s.1)).length (.ch 4),[],(zp s.1).length),[],⟨by decide,hA0 s hs1 hin0 heA,hnb.up,.inl ⟨hne,rfl,rfl,rfl⟩⟩,by show 2 - 1 < 2 - 0;decide,(by refine ⟨rfl,rfl,rfl,rfl,rfl,rfl,by decide,?_,?_,?_,by kernel_rfl,?_,?_⟩ <;> repeat' (first | exact bz lT | exact bz lN | exact bz lA | exact qaj (qag _) | exact bz lS2 | exact bz lM2 | exact ⟨_,rfl,RnV.wk (WkV.refl _) (bz lA)⟩ | exact ⟨_,rfl,RnV.wk (WkV.int hw0) (Nat.zero_le _)⟩ | exact ⟨_,rfl,rnK (Nat.le_of_ble_eq_true rfl) (qag _)⟩ | exact ⟨_,rfl,rnC (j :=0) (by decide) rfl rfl (qag _)⟩ | exact ⟨_,rfl,rnC (j :=0) (by decide) rfl rfl (qag (zp [q0]))⟩ | exact ⟨_,rfl,rnB (j :=0) (by decide) rfl rfl⟩ | exact ⟨_,rfl,rnW (Nat.le_of_ble_eq_true rfl)⟩ | exact chB _ _ | exact OWk.eq (chB _ _) | exact zZ | apply And.intro))⟩
      ·refine qab hC (pinN0 hin0) ?_
       conv=>whnf
       exact ⟨(1,s,.lst (flat (zp (s.1))) (zp (s.1)).length (.ch 4),[],(zp s.1).length),[],⟨by decide,hN0 s hs1 hin0,hnb.up,.inl ⟨hne,rfl,rfl,rfl⟩⟩,by show 2 - 1 < 2 - 0;decide,(by refine ⟨rfl,rfl,rfl,rfl,rfl,rfl,by decide,?_,?_,?_,by kernel_rfl,?_,?_⟩ <;> repeat' (first | exact bz lT | exact bz lN | exact bz lA | exact qaj (qag _) | exact bz lS2 | exact bz lM2 | exact ⟨_,rfl,RnV.wk (WkV.refl _) (bz lA)⟩ | exact ⟨_,rfl,RnV.wk (WkV.int hw0) (Nat.zero_le _)⟩ | exact ⟨_,rfl,rnK (Nat.le_of_ble_eq_true rfl) (qag _)⟩ | exact ⟨_,rfl,rnC (j :=0) (by decide) rfl rfl (qag _)⟩ | exact ⟨_,rfl,rnC (j :=0) (by decide) rfl rfl (qag (zp [q0]))⟩ | exact ⟨_,rfl,rnB (j :=0) (by decide) rfl rfl⟩ | exact ⟨_,rfl,rnW (Nat.le_of_ble_eq_true rfl)⟩ | exact chB _ _ | exact OWk.eq (chB _ _) | exact zZ | apply And.intro))⟩
     ·conv=>whnf
      by_cases hin1:c < all.length
      ·refine qab hC (pin1 hin1) ?_
       conv=>whnf
       refine qaa (qaf (show c < (zl all).length by rw [qax];exact hin1)) ?_
       conv=>whnf
       refine qac (nthP (show nth (ivs (zl all)) (c * 1) = some (nv (gn all c)) by rw [qa4 (by rw [qax];exact hin1),qcw all hin1])) ?_
       conv=>whnf
       have hc1 :=hca1 hin1
       refine Exists.elim1 (⟨_,rfl⟩ : ∃ q1,q1 = redF (gn all i) (gn all c)) fun q1 hq1 => ?_
       rw [← hq1] at hc1
       have hA1 :=hA10 q1 hq1
       refine qab hC (hc1.red) ?_
       conv=>whnf
       refine qab hC (hc1.dis) ?_
       conv=>whnf
       repeat ((first
        |refine qam ((qbn hne)) ?_
        |refine qal ((qbn hne)) ?_
        |refine qac (qah ((qbn hne))) ?_
        |refine qaa ((qbn hne)) ?_
        |refine qaz ((qbn hne)) ?_
        |refine qa0 ((qbn hne)) ?_
        |refine qac (qar ((qbn hne))) ?_
        |refine qad ((qbn hne)) ?_
        |refine qab hC (cmpQ (e :=dQ n d q1) (f :=s.2) hc1.b1 hc1.b2 hnb.e1 hnb.e2) ?_
        |refine zd hS ?_);conv=>whnf)
       by_cases hlt:(dQ n d q1).1 * s.2.2 < s.2.1 * (dQ n d q1).2
       ·refine qaa (qpa hlt) ?_
        conv=>whnf
        have heA:cand n d s q1 = ([q1],dQ n d q1) :=qj8 (.inr hlt)
        refine zd hS ?_
        conv=>whnf
        refine qab hC (cmpQ (e :=dQ n d q1) (f :=dQ n d q1) hc1.b1 hc1.b2 hc1.b1 hc1.b2) ?_
        conv=>whnf
        repeat ((first
         |refine qam ((qao rfl)) ?_
         |refine qal ((qao rfl)) ?_
         |refine qac (qah ((qao rfl))) ?_
         |refine qaa ((qao rfl)) ?_
         |refine qaz ((qao rfl)) ?_
         |refine qa0 ((qao rfl)) ?_
         |refine qac (qar ((qao rfl))) ?_
         |refine qad ((qao rfl)) ?_
         |refine qab hC (qb6 q1) ?_
         |refine zd hS ?_);conv=>whnf)
        exact ⟨(2,([q1],dQ n d q1),.lst (flat (zp ([q1]))) (zp ([q1])).length (.ch 5),[.chain (zp ([q1])).length 2 24],(zp s.1).length),[10],⟨by decide,hA1 s hs1 hin1 heA,hnb.one hc1.b1 hc1.b2,.inr ⟨(fun e => nomatch e),rfl,rfl,by decide⟩⟩,by show 2 - 2 < 2 - 1;decide,(by refine ⟨rfl,rfl,rfl,rfl,rfl,rfl,by decide,?_,?_,?_,by kernel_rfl,?_,?_⟩ <;> repeat' (first | exact bz lT | exact bz lN | exact bz lA | exact qaj (qag _) | exact bz lS2 | exact bz lM2 | exact ⟨_,rfl,RnV.wk (WkV.refl _) (bz lA)⟩ | exact ⟨_,rfl,RnV.wk (WkV.int hw1) (Nat.zero_le _)⟩ | exact ⟨_,rfl,rnK (Nat.le_of_ble_eq_true rfl) (qag _)⟩ | exact ⟨_,rfl,rnC (j :=0) (by decide) rfl rfl (qag _)⟩ | exact ⟨_,rfl,rnC (j :=0) (by decide) rfl rfl (qag (zp [q1]))⟩ | exact ⟨_,rfl,rnB (j :=0) (by decide) rfl rfl⟩ | exact ⟨_,rfl,rnW (Nat.le_of_ble_eq_true rfl)⟩ | exact chB _ _ | exact OWk.eq (chB _ _) | exact zZ | apply And.intro))⟩
       ·refine qad (qpb hlt) ?_
        conv=>whnf
        refine qab hC (cmpQ (e :=dQ n d q1) (f :=s.2) hc1.b1 hc1.b2 hnb.e1 hnb.e2) ?_
        conv=>whnf
        by_cases heq:(dQ n d q1).1 * s.2.2 = s.2.1 * (dQ n d q1).2
        ·repeat ((first
          |refine qam ((qao heq)) ?_
          |refine qal ((qao heq)) ?_
          |refine qac (qah ((qao heq))) ?_
          |refine qaa ((qao heq)) ?_
          |refine qaz ((qao heq)) ?_
          |refine qa0 ((qao heq)) ?_
          |refine qac (qar ((qao heq))) ?_
          |refine qad ((qao heq)) ?_
          |refine zd hS ?_);conv=>whnf)
         refine qbp hC (cqW s.1 (by have :=hnb.ln;omega) q1 _) ?_
         conv=>whnf
         by_cases hm:q1 ∈ s.1
         ·repeat ((first
           |refine qam ((qao heq)) ?_
           |refine qal ((qao heq)) ?_
           |refine qac (qah ((qao heq))) ?_
           |refine qaa ((qao heq)) ?_
           |refine qaz ((qao heq)) ?_
           |refine qa0 ((qao heq)) ?_
           |refine qac (qar ((qao heq))) ?_
           |refine qad ((qao heq)) ?_
           |refine qam ((qbl hm)) ?_
           |refine qal ((qbl hm)) ?_
           |refine qac (qah ((qbl hm))) ?_
           |refine qaa ((qbl hm)) ?_
           |refine qaz ((qbl hm)) ?_
           |refine qa0 ((qbl hm)) ?_
           |refine qac (qar ((qbl hm))) ?_
           |refine qad ((qbl hm)) ?_
           |refine zd hS ?_);conv=>whnf)
          have heA:cand n d s q1 = s :=qhi hne hlt fun h => h.2 hm
          exact ⟨(2,s,.lst (flat (zp (s.1))) (zp (s.1)).length (.ch 4),[],(zp s.1).length),[],⟨by decide,hA1 s hs1 hin1 heA,hnb.up,.inl ⟨hne,rfl,rfl,rfl⟩⟩,by show 2 - 2 < 2 - 1;decide,(by refine ⟨rfl,rfl,rfl,rfl,rfl,rfl,by decide,?_,?_,?_,by kernel_rfl,?_,?_⟩ <;> repeat' (first | exact bz lT | exact bz lN | exact bz lA | exact qaj (qag _) | exact bz lS2 | exact bz lM2 | exact ⟨_,rfl,RnV.wk (WkV.refl _) (bz lA)⟩ | exact ⟨_,rfl,RnV.wk (WkV.int hw1) (Nat.zero_le _)⟩ | exact ⟨_,rfl,rnK (Nat.le_of_ble_eq_true rfl) (qag _)⟩ | exact ⟨_,rfl,rnC (j :=0) (by decide) rfl rfl (qag _)⟩ | exact ⟨_,rfl,rnC (j :=0) (by decide) rfl rfl (qag (zp [q1]))⟩ | exact ⟨_,rfl,rnB (j :=0) (by decide) rfl rfl⟩ | exact ⟨_,rfl,rnW (Nat.le_of_ble_eq_true rfl)⟩ | exact chB _ _ | exact OWk.eq (chB _ _) | exact zZ | apply And.intro))⟩
         ·repeat ((first
           |refine qam ((qao heq)) ?_
           |refine qal ((qao heq)) ?_
           |refine qac (qah ((qao heq))) ?_
           |refine qaa ((qao heq)) ?_
           |refine qaz ((qao heq)) ?_
           |refine qa0 ((qao heq)) ?_
           |refine qac (qar ((qao heq))) ?_
           |refine qad ((qao heq)) ?_
           |refine qam ((qbm hm)) ?_
           |refine qal ((qbm hm)) ?_
           |refine qac (qah ((qbm hm))) ?_
           |refine qaa ((qbm hm)) ?_
           |refine qaz ((qbm hm)) ?_
           |refine qa0 ((qbm hm)) ?_
           |refine qac (qar ((qbm hm))) ?_
           |refine qad ((qbm hm)) ?_
           |refine zd hS ?_);conv=>whnf)
          have heA:cand n d s q1 = (s.1 ++ [q1],s.2) :=qqq hne hlt heq hm
          have hzl :=qa9 s.1
          have hln :=hnb.ln
          refine qaa (zT (show ((zp s.1).length + (0 + 1)) * 16 ≤ 140737488355328 by omega)) ?_
          conv=>whnf
          refine qaa (zT (show (zp s.1).length + (0 + 1) ≤ 9223372036854775807 by omega)) ?_
          conv=>whnf
          refine qaa (qcz s.1) ?_
          conv=>whnf
          refine qaa (zT rfl) ?_
          conv=>whnf
          exact ⟨(2,(s.1 ++ [q1],s.2),.lst (flat (zp (s.1 ++ [q1]))) (zp (s.1 ++ [q1])).length (.ch 4),[],(zp (s.1 ++ [q1])).length),[],⟨by decide,hA1 s hs1 hin1 heA,hnb.more _,.inl ⟨(by simp),rfl,rfl,rfl⟩⟩,by show 2 - 2 < 2 - 1;decide,(by refine ⟨rfl,rfl,rfl,rfl,rfl,rfl,by decide,?_,?_,?_,by kernel_rfl,?_,?_⟩ <;> repeat' (first | exact bz lT | exact bz lN | exact bz lA | exact qaj (qag _) | exact bz lS2 | exact bz lM2 | exact ⟨_,rfl,RnV.wk (WkV.refl _) (bz lA)⟩ | exact ⟨_,rfl,RnV.wk (WkV.int hw1) (Nat.zero_le _)⟩ | exact ⟨_,rfl,rnK (Nat.le_of_ble_eq_true rfl) (qag _)⟩ | exact ⟨_,rfl,rnC (j :=0) (by decide) rfl rfl (qag _)⟩ | exact ⟨_,rfl,rnC (j :=0) (by decide) rfl rfl (qag (zp [q1]))⟩ | exact ⟨_,rfl,rnB (j :=0) (by decide) rfl rfl⟩ | exact ⟨_,rfl,rnW (Nat.le_of_ble_eq_true rfl)⟩ | exact chB _ _ | exact OWk.eq (chB _ _) | exact zZ | apply And.intro))⟩
        ·repeat ((first
          |refine qam ((qbk heq)) ?_
          |refine qal ((qbk heq)) ?_
          |refine qac (qah ((qbk heq))) ?_
          |refine qaa ((qbk heq)) ?_
          |refine qaz ((qbk heq)) ?_
          |refine qa0 ((qbk heq)) ?_
          |refine qac (qar ((qbk heq))) ?_
          |refine qad ((qbk heq)) ?_
          |refine zd hS ?_);conv=>whnf)
         have heA:cand n d s q1 = s :=qhi hne hlt fun h => heq h.1
         exact ⟨(2,s,.lst (flat (zp (s.1))) (zp (s.1)).length (.ch 4),[],(zp s.1).length),[],⟨by decide,hA1 s hs1 hin1 heA,hnb.up,.inl ⟨hne,rfl,rfl,rfl⟩⟩,by show 2 - 2 < 2 - 1;decide,(by refine ⟨rfl,rfl,rfl,rfl,rfl,rfl,by decide,?_,?_,?_,by kernel_rfl,?_,?_⟩ <;> repeat' (first | exact bz lT | exact bz lN | exact bz lA | exact qaj (qag _) | exact bz lS2 | exact bz lM2 | exact ⟨_,rfl,RnV.wk (WkV.refl _) (bz lA)⟩ | exact ⟨_,rfl,RnV.wk (WkV.int hw1) (Nat.zero_le _)⟩ | exact ⟨_,rfl,rnK (Nat.le_of_ble_eq_true rfl) (qag _)⟩ | exact ⟨_,rfl,rnC (j :=0) (by decide) rfl rfl (qag _)⟩ | exact ⟨_,rfl,rnC (j :=0) (by decide) rfl rfl (qag (zp [q1]))⟩ | exact ⟨_,rfl,rnB (j :=0) (by decide) rfl rfl⟩ | exact ⟨_,rfl,rnW (Nat.le_of_ble_eq_true rfl)⟩ | exact chB _ _ | exact OWk.eq (chB _ _) | exact zZ | apply And.intro))⟩
      ·refine qab hC (pinN1 hin1) ?_
       conv=>whnf
       exact ⟨(2,s,.lst (flat (zp (s.1))) (zp (s.1)).length (.ch 4),[],(zp s.1).length),[],⟨by decide,hN1 s hs1 hin1,hnb.up,.inl ⟨hne,rfl,rfl,rfl⟩⟩,by show 2 - 2 < 2 - 1;decide,(by refine ⟨rfl,rfl,rfl,rfl,rfl,rfl,by decide,?_,?_,?_,by kernel_rfl,?_,?_⟩ <;> repeat' (first | exact bz lT | exact bz lN | exact bz lA | exact qaj (qag _) | exact bz lS2 | exact bz lM2 | exact ⟨_,rfl,RnV.wk (WkV.refl _) (bz lA)⟩ | exact ⟨_,rfl,RnV.wk (WkV.int hw1) (Nat.zero_le _)⟩ | exact ⟨_,rfl,rnK (Nat.le_of_ble_eq_true rfl) (qag _)⟩ | exact ⟨_,rfl,rnC (j :=0) (by decide) rfl rfl (qag _)⟩ | exact ⟨_,rfl,rnC (j :=0) (by decide) rfl rfl (qag (zp [q1]))⟩ | exact ⟨_,rfl,rnB (j :=0) (by decide) rfl rfl⟩ | exact ⟨_,rfl,rnW (Nat.le_of_ble_eq_true rfl)⟩ | exact chB _ _ | exact OWk.eq (chB _ _) | exact zZ | apply And.intro))⟩
     ·conv=>whnf
      exact ⟨(i + 1,s,.lst (flat (zp (s.1))) (zp (s.1)).length (.ch 4),[.chain (zp (s.1)).length 2 24]),[4],⟨hi,by rw [hs1];exact hstep.symm,hnb,.inr ⟨hne,rfl,rfl⟩⟩,by show all.length - (i + 1) < all.length - i;omega,(by refine ⟨rfl,rfl,rfl,rfl,rfl,rfl,by decide,?_,?_,?_,by kernel_rfl,?_,?_⟩ <;> repeat' (first | exact bz lT | exact bz lN | exact bz lA | exact qaj (qag _) | exact bz lS2 | exact bz lM2 | exact ⟨_,rfl,RnV.wk (WkV.refl _) (bz lA)⟩ | exact ⟨_,rfl,RnV.wk (WkV.int (hi1 hi)) (Nat.zero_le _)⟩ | exact ⟨_,rfl,rnC (j :=0) (by decide) rfl rfl (qag _)⟩ | exact zZ | apply And.intro))⟩
    ·obtain rfl:M = 6 :=hM
     rcases (show k1 = 0 ∨ k1 = 1 ∨ k1 = 2 by omega) with rfl | rfl | rfl
     ·exact absurd hk0 (by decide)
     ·conv=>whnf
      by_cases hin1:c < all.length
      ·refine qab hC (pin1 hin1) ?_
       conv=>whnf
       refine qaa (qaf (show c < (zl all).length by rw [qax];exact hin1)) ?_
       conv=>whnf
       refine qac (nthP (show nth (ivs (zl all)) (c * 1) = some (nv (gn all c)) by rw [qa4 (by rw [qax];exact hin1),qcw all hin1])) ?_
       conv=>whnf
       have hc1 :=hca1 hin1
       refine Exists.elim1 (⟨_,rfl⟩ : ∃ q1,q1 = redF (gn all i) (gn all c)) fun q1 hq1 => ?_
       rw [← hq1] at hc1
       have hA1 :=hA10 q1 hq1
       refine qab hC (hc1.red) ?_
       conv=>whnf
       refine qab hC (hc1.dis) ?_
       conv=>whnf
       repeat ((first
        |refine qam ((qbn hne)) ?_
        |refine qal ((qbn hne)) ?_
        |refine qac (qah ((qbn hne))) ?_
        |refine qaa ((qbn hne)) ?_
        |refine qaz ((qbn hne)) ?_
        |refine qa0 ((qbn hne)) ?_
        |refine qac (qar ((qbn hne))) ?_
        |refine qad ((qbn hne)) ?_
        |refine qab hC (cmpQ (e :=dQ n d q1) (f :=s.2) hc1.b1 hc1.b2 hnb.e1 hnb.e2) ?_
        |refine zd hS ?_);conv=>whnf)
       by_cases hlt:(dQ n d q1).1 * s.2.2 < s.2.1 * (dQ n d q1).2
       ·refine qaa (qpa hlt) ?_
        conv=>whnf
        have heA:cand n d s q1 = ([q1],dQ n d q1) :=qj8 (.inr hlt)
        refine zd hS ?_
        conv=>whnf
        refine qab hC (cmpQ (e :=dQ n d q1) (f :=dQ n d q1) hc1.b1 hc1.b2 hc1.b1 hc1.b2) ?_
        conv=>whnf
        repeat ((first
         |refine qam ((qao rfl)) ?_
         |refine qal ((qao rfl)) ?_
         |refine qac (qah ((qao rfl))) ?_
         |refine qaa ((qao rfl)) ?_
         |refine qaz ((qao rfl)) ?_
         |refine qa0 ((qao rfl)) ?_
         |refine qac (qar ((qao rfl))) ?_
         |refine qad ((qao rfl)) ?_
         |refine qab hC (qb6 q1) ?_
         |refine zd hS ?_);conv=>whnf)
        exact ⟨(2,([q1],dQ n d q1),.lst (flat (zp ([q1]))) (zp ([q1])).length (.ch 5),[.chain (zp ([q1])).length 2 24],g),[11],⟨by decide,hA1 s hs1 hin1 heA,hnb.one hc1.b1 hc1.b2,.inr ⟨(fun e => nomatch e),rfl,rfl,by decide⟩⟩,by show 2 - 2 < 2 - 1;decide,(by refine ⟨rfl,rfl,rfl,rfl,rfl,rfl,by decide,?_,?_,?_,by kernel_rfl,?_,?_⟩ <;> repeat' (first | exact bz lT | exact bz lN | exact bz lA | exact qaj (qag _) | exact bz lS2 | exact bz lM2 | exact ⟨_,rfl,RnV.wk (WkV.refl _) (bz lA)⟩ | exact ⟨_,rfl,RnV.wk (WkV.int hw1) (Nat.zero_le _)⟩ | exact ⟨_,rfl,rnK (Nat.le_of_ble_eq_true rfl) (qag _)⟩ | exact ⟨_,rfl,rnC (j :=0) (by decide) rfl rfl (qag _)⟩ | exact ⟨_,rfl,rnC (j :=0) (by decide) rfl rfl (qag (zp [q1]))⟩ | exact ⟨_,rfl,rnB (j :=0) (by decide) rfl rfl⟩ | exact ⟨_,rfl,rnW (Nat.le_of_ble_eq_true rfl)⟩ | exact chB _ _ | exact OWk.eq (chB _ _) | exact zZ | apply And.intro))⟩
       ·refine qad (qpb hlt) ?_
        conv=>whnf
        refine qab hC (cmpQ (e :=dQ n d q1) (f :=s.2) hc1.b1 hc1.b2 hnb.e1 hnb.e2) ?_
        conv=>whnf
        by_cases heq:(dQ n d q1).1 * s.2.2 = s.2.1 * (dQ n d q1).2
        ·repeat ((first
          |refine qam ((qao heq)) ?_
          |refine qal ((qao heq)) ?_
          |refine qac (qah ((qao heq))) ?_
          |refine qaa ((qao heq)) ?_
          |refine qaz ((qao heq)) ?_
          |refine qa0 ((qao heq)) ?_
          |refine qac (qar ((qao heq))) ?_
          |refine qad ((qao heq)) ?_
          |refine zd hS ?_);conv=>whnf)
         refine qbp hC (cqW s.1 (by have :=hnb.ln;omega) q1 _) ?_
         conv=>whnf
         by_cases hm:q1 ∈ s.1
         ·repeat ((first
           |refine qam ((qao heq)) ?_
           |refine qal ((qao heq)) ?_
           |refine qac (qah ((qao heq))) ?_
           |refine qaa ((qao heq)) ?_
           |refine qaz ((qao heq)) ?_
           |refine qa0 ((qao heq)) ?_
           |refine qac (qar ((qao heq))) ?_
           |refine qad ((qao heq)) ?_
           |refine qam ((qbl hm)) ?_
           |refine qal ((qbl hm)) ?_
           |refine qac (qah ((qbl hm))) ?_
           |refine qaa ((qbl hm)) ?_
           |refine qaz ((qbl hm)) ?_
           |refine qa0 ((qbl hm)) ?_
           |refine qac (qar ((qbl hm))) ?_
           |refine qad ((qbl hm)) ?_
           |refine zd hS ?_);conv=>whnf)
          have heA:cand n d s q1 = s :=qhi hne hlt fun h => h.2 hm
          exact ⟨(2,s,.lst (flat (zp (s.1))) (zp (s.1)).length (.ch 5),[.chain (zp (s.1)).length 2 24],g),[5],⟨by decide,hA1 s hs1 hin1 heA,hnb.up,.inr ⟨hne,rfl,rfl,by decide⟩⟩,by show 2 - 2 < 2 - 1;decide,(by refine ⟨rfl,rfl,rfl,rfl,rfl,rfl,by decide,?_,?_,?_,by kernel_rfl,?_,?_⟩ <;> repeat' (first | exact bz lT | exact bz lN | exact bz lA | exact qaj (qag _) | exact bz lS2 | exact bz lM2 | exact ⟨_,rfl,RnV.wk (WkV.refl _) (bz lA)⟩ | exact ⟨_,rfl,RnV.wk (WkV.int hw1) (Nat.zero_le _)⟩ | exact ⟨_,rfl,rnK (Nat.le_of_ble_eq_true rfl) (qag _)⟩ | exact ⟨_,rfl,rnC (j :=0) (by decide) rfl rfl (qag _)⟩ | exact ⟨_,rfl,rnC (j :=0) (by decide) rfl rfl (qag (zp [q1]))⟩ | exact ⟨_,rfl,rnB (j :=0) (by decide) rfl rfl⟩ | exact ⟨_,rfl,rnW (Nat.le_of_ble_eq_true rfl)⟩ | exact chB _ _ | exact OWk.eq (chB _ _) | exact zZ | apply And.intro))⟩
         ·repeat ((first
           |refine qam ((qao heq)) ?_
           |refine qal ((qao heq)) ?_
           |refine qac (qah ((qao heq))) ?_
           |refine qaa ((qao heq)) ?_
           |refine qaz ((qao heq)) ?_
           |refine qa0 ((qao heq)) ?_
           |refine qac (qar ((qao heq))) ?_
           |refine qad ((qao heq)) ?_
           |refine qam ((qbm hm)) ?_
           |refine qal ((qbm hm)) ?_
           |refine qac (qah ((qbm hm))) ?_
           |refine qaa ((qbm hm)) ?_
           |refine qaz ((qbm hm)) ?_
           |refine qa0 ((qbm hm)) ?_
           |refine qac (qar ((qbm hm))) ?_
           |refine qad ((qbm hm)) ?_
           |refine zd hS ?_);conv=>whnf)
          have heA:cand n d s q1 = (s.1 ++ [q1],s.2) :=qqq hne hlt heq hm
          have hzl :=qa9 s.1
          have hln :=hnb.ln
          refine qaa (zT (show ((zp s.1).length + (0 + 1)) * 16 ≤ 140737488355328 by omega)) ?_
          conv=>whnf
          refine qaa (zT (show (zp s.1).length + (0 + 1) ≤ 9223372036854775807 by omega)) ?_
          conv=>whnf
          refine qaa (qcz s.1) ?_
          conv=>whnf
          refine qaa (zT rfl) ?_
          conv=>whnf
          exact ⟨(2,(s.1 ++ [q1],s.2),.lst (flat (zp (s.1 ++ [q1]))) (zp (s.1 ++ [q1])).length (.ch 5),[.chain (zp (s.1 ++ [q1])).length 2 24],g),[5],⟨by decide,hA1 s hs1 hin1 heA,hnb.more _,.inr ⟨(by simp),rfl,rfl,by decide⟩⟩,by show 2 - 2 < 2 - 1;decide,(by refine ⟨rfl,rfl,rfl,rfl,rfl,rfl,by decide,?_,?_,?_,by kernel_rfl,?_,?_⟩ <;> repeat' (first | exact bz lT | exact bz lN | exact bz lA | exact qaj (qag _) | exact bz lS2 | exact bz lM2 | exact ⟨_,rfl,RnV.wk (WkV.refl _) (bz lA)⟩ | exact ⟨_,rfl,RnV.wk (WkV.int hw1) (Nat.zero_le _)⟩ | exact ⟨_,rfl,rnK (Nat.le_of_ble_eq_true rfl) (qag _)⟩ | exact ⟨_,rfl,rnC (j :=0) (by decide) rfl rfl (qag _)⟩ | exact ⟨_,rfl,rnC (j :=0) (by decide) rfl rfl (qag (zp [q1]))⟩ | exact ⟨_,rfl,rnB (j :=0) (by decide) rfl rfl⟩ | exact ⟨_,rfl,rnW (Nat.le_of_ble_eq_true rfl)⟩ | exact chB _ _ | exact OWk.eq (chB _ _) | exact zZ | apply And.intro))⟩
        ·repeat ((first
          |refine qam ((qbk heq)) ?_
          |refine qal ((qbk heq)) ?_
          |refine qac (qah ((qbk heq))) ?_
          |refine qaa ((qbk heq)) ?_
          |refine qaz ((qbk heq)) ?_
          |refine qa0 ((qbk heq)) ?_
          |refine qac (qar ((qbk heq))) ?_
          |refine qad ((qbk heq)) ?_
          |refine zd hS ?_);conv=>whnf)
         have heA:cand n d s q1 = s :=qhi hne hlt fun h => heq h.1
         exact ⟨(2,s,.lst (flat (zp (s.1))) (zp (s.1)).length (.ch 5),[.chain (zp (s.1)).length 2 24],g),[5],⟨by decide,hA1 s hs1 hin1 heA,hnb.up,.inr ⟨hne,rfl,rfl,by decide⟩⟩,by show 2 - 2 < 2 - 1;decide,(by refine ⟨rfl,rfl,rfl,rfl,rfl,rfl,by decide,?_,?_,?_,by kernel_rfl,?_,?_⟩ <;> repeat' (first | exact bz lT | exact bz lN | exact bz lA | exact qaj (qag _) | exact bz lS2 | exact bz lM2 | exact ⟨_,rfl,RnV.wk (WkV.refl _) (bz lA)⟩ | exact ⟨_,rfl,RnV.wk (WkV.int hw1) (Nat.zero_le _)⟩ | exact ⟨_,rfl,rnK (Nat.le_of_ble_eq_true rfl) (qag _)⟩ | exact ⟨_,rfl,rnC (j :=0) (by decide) rfl rfl (qag _)⟩ | exact ⟨_,rfl,rnC (j :=0) (by decide) rfl rfl (qag (zp [q1]))⟩ | exact ⟨_,rfl,rnB (j :=0) (by decide) rfl rfl⟩ | exact ⟨_,rfl,rnW (Nat.le_of_ble_eq_true rfl)⟩ | exact chB _ _ | exact OWk.eq (chB _ _) | exact zZ | apply And.intro))⟩
      ·refine qab hC (pinN1 hin1) ?_
       conv=>whnf
       exact ⟨(2,s,.lst (flat (zp (s.1))) (zp (s.1)).length (.ch 5),[.chain (zp (s.1)).length 2 24],g),[5],⟨by decide,hN1 s hs1 hin1,hnb.up,.inr ⟨hne,rfl,rfl,by decide⟩⟩,by show 2 - 2 < 2 - 1;decide,(by refine ⟨rfl,rfl,rfl,rfl,rfl,rfl,by decide,?_,?_,?_,by kernel_rfl,?_,?_⟩ <;> repeat' (first | exact bz lT | exact bz lN | exact bz lA | exact qaj (qag _) | exact bz lS2 | exact bz lM2 | exact ⟨_,rfl,RnV.wk (WkV.refl _) (bz lA)⟩ | exact ⟨_,rfl,RnV.wk (WkV.int hw1) (Nat.zero_le _)⟩ | exact ⟨_,rfl,rnK (Nat.le_of_ble_eq_true rfl) (qag _)⟩ | exact ⟨_,rfl,rnC (j :=0) (by decide) rfl rfl (qag _)⟩ | exact ⟨_,rfl,rnC (j :=0) (by decide) rfl rfl (qag (zp [q1]))⟩ | exact ⟨_,rfl,rnB (j :=0) (by decide) rfl rfl⟩ | exact ⟨_,rfl,rnW (Nat.le_of_ble_eq_true rfl)⟩ | exact chB _ _ | exact OWk.eq (chB _ _) | exact zZ | apply And.intro))⟩
     ·conv=>whnf
      exact ⟨(i + 1,s,.lst (flat (zp (s.1))) (zp (s.1)).length (.ch 4),[.chain (zp (s.1)).length 2 24]),[5],⟨hi,by rw [hs1];exact hstep.symm,hnb,.inr ⟨hne,rfl,rfl⟩⟩,by show all.length - (i + 1) < all.length - i;omega,(by refine ⟨rfl,rfl,rfl,rfl,rfl,rfl,by decide,?_,?_,?_,by kernel_rfl,?_,?_⟩ <;> repeat' (first | exact bz lT | exact bz lN | exact bz lA | exact qaj (qag _) | exact bz lS2 | exact bz lM2 | exact ⟨_,rfl,RnV.wk (WkV.refl _) (bz lA)⟩ | exact ⟨_,rfl,RnV.wk (WkV.int (hi1 hi)) (Nat.zero_le _)⟩ | exact ⟨_,rfl,rnC (j :=0) (by decide) rfl rfl (qag _)⟩ | exact zZ | apply And.intro))⟩
   ·refine qad ((show decide (Int.ofNat i < ((zl all).length:Int)) = false from zF (by rw [qax];show ¬ (i:Int) < _;omega))) ?_
    conv=>whnf
    have ei:i = all.length :=by omega
    have hs:s = qdt all n d :=by rw [hs,ei,List.take_length];rfl
    refine zd hS ?_
    conv=>whnf
    rw [← hs,qg8 hne]
    exact ⟨_,rfl,qjj (qo5 rfl)⟩
end
end Go.Abs.Seat

