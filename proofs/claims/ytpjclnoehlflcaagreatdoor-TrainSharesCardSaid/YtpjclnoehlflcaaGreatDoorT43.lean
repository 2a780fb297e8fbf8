/-
  The program's first train.
-/
import Derived.Test.YtpjclnoehlflcaaGreatDoorU9
/-! The program's first train. -/
namespace Go.Abs.Seat
noncomputable section
open Go Go.Abs Go.Proofs.Tryz
set_option maxRecDepth 100000
set_option maxHeartbeats 40000000
attribute [local irreducible] IntKind.wrap pEq
abbrev boW (a b p s:Int) (N T:AV) (S M:List AV):AObj :=.cells (.node (iv a) (.node (iv b) (.node (iv s) (.node (.lst M M.length .no) .nil .nil) .nil) (.node T .nil .nil)) (.node (iv p) (.node N .nil .nil) (.node (.lst S S.length .no) .nil .nil))) 8 122
abbrev hpF (W X:AObj) (P:Nat):Tr AObj :=
 .node W (.node (.cells (.node (nv P) .nil .nil) 1 3) (.node (.cells (.node (.func (.func 162) [] [.ptr 1 0,.ptr 0 0,.ptr 3 0]) .nil .nil) 1 200) .nil .nil) .nil) (.node X .nil .nil)
theorem qln (W X:AObj) (P:Nat):HEnd (hpF W X P) 4 :=qcr [W,.cells (.node (nv P) .nil .nil) 1 3,X,.cells (.node (.func (.func 162) [] [.ptr 1 0,.ptr 0 0,.ptr 3 0]) .nil .nil) 1 200] 0 .nil qey
theorem HFun.cw {P:Program} {f:FuncId} {a a':AV} {r:List AV} {o o':Nat → AObj} {m:Nat} {v:AV} (hw:WkV a a') (h:HFun P f (a' :: r) o m v o'):HFun P f (a :: r) o m v o' :=by
 intro B H hH g vs cs w hr hv hl
 refine h B H hH g vs cs w hr ?_ ⟨hw.lv _ hl.1,hl.2⟩
 simp only [VRels] at hv ⊢
 obtain ⟨u,us,e,h1,h2⟩ :=hv
 exact ⟨u,us,e,hw.wk _ _ _ h1,h2⟩
def qca:List (Nat × Nat) → Nat × Nat
 | [] => (0,0)
 | [p] => p
 | _ :: p :: r => qca (p :: r)
def srV (now:List (Nat × Nat)):Option (List (Nat × Nat)) → AV
 |none => .nils
 |some t => trA (now ++ t)
theorem qxv (now:List (Nat × Nat)) (o:Option (List (Nat × Nat))):Live noL (srV now o) :=by
 cases o with
 |none => trivial
 |some t => exact ql6 _
theorem qii (tp:Nat → Prop):∀ p,(prM tp p).length = p + 1
 | 0 => rfl
 |p + 1 => by rw [prM,List.length_append,qii tp p];rfl
theorem qtb (tp:Nat → Prop):∀ (p k:Nat),k ≤ p → nth (prM tp p) k = some (.lst (mkB (qak tp k) (60 ^ k + 1)) (60 ^ k + 1) .no)
 | 0,0,_ => rfl
 |p + 1,k,h => by
  rw [qe0,prM]
  by_cases e:k = p + 1
  ·subst e
   rw [List.getElem?_append_right (by rw [qii];omega),qii,Nat.sub_self]
   rfl
  ·rw [List.getElem?_append_left (by rw [qii];omega),← qe0]
   exact qtb tp p k (by omega)
theorem q1a (q:Nat → Prop) (m:Nat):MB (.lst (mkB q m) m .no) m q :=⟨_,rfl,qp6 q m,fun x hx => by rw [qe0];exact qt1 q hx⟩
section
variable {N:AV} {l:List Int} (a b s:Int) (P:Nat) (TL:List Nat) (X:AObj)
theorem q2j (hN:IL N l) (hTL:TL ≠ []) (h60:∀ n,n ∈ TL → 1 ≤ n ∧ n ≤ 60) (hP:P ≤ 3) (k:Nat) (hk:k ≤ P) (x y:Nat) (hx:1 ≤ x) (hx2:x ≤ 100000000) (hy:1 ≤ y) (hy2:y ≤ 100000000) :
  Pure prog 163 [whv a b (Int.ofNat P) s N (nl (zl TL)) (prS (fun n => n ∈ TL) P) (prM (fun n => n ∈ TL) P),nv k,fv (Int.ofNat x) (Int.ofNat y)] (.bool (bq (∃ n,1 ≤ n ∧ qak (fun n => n ∈ TL) k (n * x) ∧ qak (fun n => n ∈ TL) k (n * y)))) :=by
 have e:nl (zl TL) = sv (zl TL) :=by
  rcases qco (zl TL) with ⟨k,_⟩ | k
  ·exact absurd (List.map_eq_nil_iff.1 k) hTL
  ·exact k.symm
 have h3:60 ^ k ≤ 60 ^ 3 :=Nat.pow_le_pow_right (by omega) (by omega)
 have :=qxe hN e a b (Int.ofNat P) s (qg9 (fun n => n ∈ TL) P) (qe5 (fun n => n ∈ TL) P) (qtb (fun n => n ∈ TL) P k hk) (by rw [qii];omega) (q1a _ _) (by omega) x y hx hx2 hy hy2
 have hiff:(∃ n,1 ≤ n ∧ n * Nat.max x y < 60 ^ k + 1 ∧ qak (fun n => n ∈ TL) k (n * x) ∧ qak (fun n => n ∈ TL) k (n * y)) ↔ ∃ n,1 ≤ n ∧ qak (fun n => n ∈ TL) k (n * x) ∧ qak (fun n => n ∈ TL) k (n * y) :=by
  refine ⟨fun ⟨n,q1,_,q2⟩ => ⟨n,q1,q2⟩,fun ⟨n,q1,q2,q3⟩ => ⟨n,q1,?_,q2,q3⟩⟩
  have r1 :=(qbq h60 k _ q2).2
  have r2 :=(qbq h60 k _ q3).2
  rcases Nat.le_total x y with c | c
  ·have e:Nat.max x y = y :=Nat.max_eq_right c
   rw [e];omega
  ·have e:Nat.max x y = x :=Nat.max_eq_left c
   rw [e];omega
 rwa [q0g hiff] at this
end
theorem ob4 {h h':Tr AObj} (e0:hv h 0 = hv h' 0) (e1:hv h 1 = hv h' 1) (e2:hv h 2 = hv h' 2) (e3:hv h 3 = hv h' 3):∀ i,i < 4 → hv h i = hv h' i
 | 0,_ => e0
 | 1,_ => e1
 | 2,_ => e2
 | 3,_ => e3
 | _ + 4,h => absurd h (by omega)
theorem qi3 (cst:Bool):q0 22 cst .nils .nils = some true :=by kernel_rfl
theorem qfz (cst:Bool) (xs:List AV) (n:Nat) (o:Own):q0 22 cst (.lst xs n o) .nils = some false :=by kernel_rfl
theorem qsn {α:Type} {Q:Prop} (o:Option α) (hn:o = none → Q) (hs:∀ t,o = some t → Q):Q :=by
 cases o with
 |none => exact hn rfl
 |some t => exact hs t rfl
theorem qld {a b c d:Nat}:ordP (Int.ofNat a) (Int.ofNat b) (Int.ofNat c) (Int.ofNat d) < 0 ↔ ltQ (a,b) (c,d) :=by
 rw [qgz]
 unfold ltQ
 simp only [Int.ofNat_eq_natCast]
 omega
structure StF (N:AV) (a b s:Int) (P Q:Nat) (TL:List Nat) (k c x y:Nat) (f p r:Nat × Nat):Prop where
 r1:1 ≤ r.1
 r2:1 ≤ r.2
 red:Pure prog 126 [.int .i64 (IntKind.i64.wrap (Int.ofNat x * Int.ofNat p.2)),.int .i64 (IntKind.i64.wrap (Int.ofNat y * Int.ofNat p.1))] (qf r)
 cb:∃ cb,Pure prog 163 [whv a b (Int.ofNat Q) s N (nl (zl TL)) (prS (fun n => n ∈ TL) Q) (prM (fun n => n ∈ TL) Q),.int .i64 (IntKind.i64.wrap (IntKind.i64.wrap (Int.ofNat P - Int.ofNat c) - 1)),qf r] (.bool cb) ∧
  (cb = false → ∀ u,¬ Wt (fun n => n ∈ TL) (k + 1) x y f (p :: u)) ∧ (cb = true → r.1 ≤ 60 ^ k ∧ r.2 ≤ 60 ^ k)
 fd:∀ t,mnT (Wt (fun n => n ∈ TL) k r.1 r.2 p) = some t → (∀ q u,ltQ q p → ¬ Wt (fun n => n ∈ TL) (k + 1) x y f (q :: u)) → mnT (Wt (fun n => n ∈ TL) (k + 1) x y f) = some (p :: t)
 nt:mnT (Wt (fun n => n ∈ TL) k r.1 r.2 p) = none → ∀ u,¬ Wt (fun n => n ∈ TL) (k + 1) x y f (p :: u)
theorem stF {N:AV} {l:List Int} (hN:IL N l) (a b s:Int) {P Q:Nat} (hP:P ≤ Q ∧ Q ≤ 3) {TL:List Nat} (hTL:TL ≠ []) (h60:∀ n,n ∈ TL → 1 ≤ n ∧ n ≤ 60) {k c x y:Nat} (hc:c + (k + 1) = P) (hx:1 ≤ x) (hy:1 ≤ y) (hx2:x ≤ 60 ^ (k + 1)) (hy2:y ≤ 60 ^ (k + 1)) {f p:Nat × Nat} (h1:p.1 ∈ TL) (h2:p.2 ∈ TL) (hbf:¬ ltQ p f) :
  ∃ r,StF N a b s P Q TL k c x y f p r :=by
 have h64:60 ^ (k + 1) ≤ 60 ^ 3 :=Nat.pow_le_pow_right (by omega) (by omega)
 have g1 :=h60 _ h1
 have g2 :=h60 _ h2
 have b1:x * p.2 ≤ 216000 * 60 :=Nat.mul_le_mul (by omega) g2.2
 have b2:y * p.1 ≤ 216000 * 60 :=Nat.mul_le_mul (by omega) g1.2
 have b3:1 ≤ x * p.2 :=Nat.mul_pos hx g2.1
 have b4:1 ≤ y * p.1 :=Nat.mul_pos hy g1.1
 have hrg :=qf7 (x :=x * p.2) b4
 have hr1:1 ≤ (redF (x * p.2) (y * p.1)).1 :=by
  apply Nat.pos_of_ne_zero
  intro e
  have :=hrg.2.1
  rw [e,Nat.mul_zero] at this
  omega
 have hr2 :=qd2 (x :=x * p.2) b4
 have hr3:(redF (x * p.2) (y * p.1)).1 ≤ 216000 * 60 :=Nat.le_trans (Nat.div_le_self _ _) b1
 have hr4:(redF (x * p.2) (y * p.1)).2 ≤ 216000 * 60 :=Nat.le_trans (Nat.div_le_self _ _) b2
 refine ⟨redF (x * p.2) (y * p.1),hr1,hr2,?_,⟨bq (∃ n,1 ≤ n ∧ qak (fun n => n ∈ TL) k (n * (redF (x * p.2) (y * p.1)).1) ∧ qak (fun n => n ∈ TL) k (n * (redF (x * p.2) (y * p.1)).2)),?_,fun e => ?_,fun e => ?_⟩,fun t => qvr (fun n h => (h60 n h).1) hy ⟨h1,h2,hbf⟩,q0q h60 hy⟩
 ·rw [mulN (by omega),mulN (by omega)]
  exact qdc _ _ (by omega) (by omega) b4
 ·rw [show IntKind.i64.wrap (IntKind.i64.wrap (Int.ofNat P - Int.ofNat c) - 1) = Int.ofNat k by
   rw [show IntKind.i64.wrap (Int.ofNat P - Int.ofNat c) = Int.ofNat (k + 1) by
    rw [show Int.ofNat P - Int.ofNat c = Int.ofNat (k + 1) by show (P:Int) - (c:Int) = ((k + 1:Nat):Int);omega]
    exact qa2 (m :=k + 1) (by omega)]
   exact qfg (m :=k + 1) (by omega) (by omega)]
  exact q2j a b s Q TL hN hTL h60 hP.2 k (by omega) _ _ hr1 (by omega) hr2 (by omega)
 ·refine q0r h60 hy rfl fun h => ?_
  rw [bq_t h] at e
  cases e
 ·have h:∃ n,1 ≤ n ∧ qak (fun n => n ∈ TL) k (n * (redF (x * p.2) (y * p.1)).1) ∧ qak (fun n => n ∈ TL) k (n * (redF (x * p.2) (y * p.1)).2) :=Classical.byContradiction fun h => by
   rw [bq_f h] at e
   cases e
  obtain ⟨n,q1,q2,q3⟩ :=h
  have r1 :=(qbq h60 k _ q2).2
  have r2 :=(qbq h60 k _ q3).2
  exact ⟨Nat.le_trans (Nat.le_mul_of_pos_left _ q1) r1,Nat.le_trans (Nat.le_mul_of_pos_left _ q1) r2⟩
theorem q0h {Q:Prop} (c:Bool) (hf:c = false → Q) (ht:c = true → Q):Q :=by
 cases c with
 |false => exact hf rfl
 |true => exact ht rfl
theorem quq {N:AV} {l:List Int} (hN:IL N l) (a b s:Int) (P Q:Nat) (hP:1 ≤ P ∧ P ≤ Q ∧ Q ≤ 3) (TL:List Nat) (hTL:TL ≠ []) (hsr:Srt TL) (h60:∀ n,n ∈ TL → 1 ≤ n ∧ n ≤ 60) (hTl:TL.length ≤ 60) (X:AObj) (hX:BdO 4 X):∀ (k:Nat) (now:List (Nat × Nat)) (x y:Nat),now.length + k = P → 1 ≤ x → 1 ≤ y → x ≤ 60 ^ k → y ≤ 60 ^ k →
  HFun prog 162 [trA now,fv (Int.ofNat x) (Int.ofNat y),.ptr 1 0,.ptr 0 0,.ptr 3 0] (hv (hpF (boW a b (Int.ofNat Q) s N (nl (zl TL)) (prS (fun n => n ∈ TL) Q) (prM (fun n => n ∈ TL) Q)) X P)) 4
   (srV now (mnT (Wt (fun n => n ∈ TL) k x y (qca now)))) (hv (hpF (boW a b (Int.ofNat Q) s N (nl (zl TL)) (prS (fun n => n ∈ TL) Q) (prM (fun n => n ∈ TL) Q)) X P)) :=by
 have lT:Live noL (nl (zl TL)) :=nl_no _
 have lN :=hN.no
 have lS:Live noL (.lst (prS (fun n => n ∈ TL) Q) (prS (fun n => n ∈ TL) Q).length .no) :=⟨qg9 _ _,fun _ e => nomatch e⟩
 have lM:Live noL (.lst (prM (fun n => n ∈ TL) Q) (prM (fun n => n ∈ TL) Q).length .no) :=⟨qe5 _ _,fun _ e => nomatch e⟩
 have hBd:ObBd 4 (hpF (boW a b (Int.ofNat Q) s N (nl (zl TL)) (prS (fun n => n ∈ TL) Q) (prM (fun n => n ∈ TL) Q)) X P) 4 :=by
  repeat' (first | exact trivial | exact hX | exact Nat.zero_le _ | exact bz lT | exact bz lN | exact bz lS | exact bz lM | exact Nat.le_of_ble_eq_true rfl | apply And.intro)
 rcases hN.cs with rfl | rfl
 all_goals
  intro k
  induction k with
  |zero =>
   intro now x y hlen hx hy hx2 hy2
   obtain rfl:x = 1 :=by rw [Nat.pow_zero] at hx2;omega
   obtain rfl:y = 1 :=by rw [Nat.pow_zero] at hy2;omega
   have e:mnT (Wt (fun n => n ∈ TL) 0 1 1 (qca now)) = some [] :=qhz (fun t h => (qh3 t h).1) (t :=[]) ⟨⟨rfl,trivial,trivial⟩,rfl⟩ fun u hu hlt => by cases u <;> simp [ltL] at hlt
   rw [e]
   have hv1 :=qxv now (some [])
   have e2:srV now (some []) = trA now :=by show trA (now ++ []) = _;rw [List.append_nil]
   have ht :=ql6 now
   rw [e2] at hv1 ⊢
   match now,hlen with
   | [],h => exact absurd h (by show ¬ 0 + 0 = P;omega)
   |p :: r,h =>
    have lp :=qag (zp (p :: r))
    have hz :=qa9 (p :: r)
    refine qgj hE rfl (qln _ _ _) (by rw [trA];exact Nat.max_le.2 ⟨qaj lp,Nat.max_le.2 ⟨Nat.zero_le _,Nat.le_of_ble_eq_true rfl⟩⟩) (by rw [trA];exact qaj lp) hBd hBd fun S q pc hS hq hC hE => ?_
    rw [trA]
    conv=>whnf
    refine qaa ((show (((zp (p :: r)).length:Int) == Int.ofNat P) = true by rw [hz];exact q1t (a :=(p :: r).length) (by omega))) ?_
    conv=>whnf
    exact ⟨_,rfl,WkV.refl _,rfl,rfl,rfl,rfl,trivial⟩
  |succ k ih =>
   intro now x y hlen hx hy hx2 hy2
   have h64:60 ^ (k + 1) ≤ 60 ^ 3 :=Nat.pow_le_pow_right (by omega) (by omega)
   have hwl :=qh3 (tp :=fun n => n ∈ TL) (k :=k + 1) (x :=x) (y :=y) (f :=qca now)
   have hv1 :=qxv now (mnT (Wt (fun n => n ∈ TL) (k + 1) x y (qca now)))
   match now,hlen,hv1 with
   | [],hlen,hv1 =>
    have hlc:0 + (k + 1) = P :=hlen
    refine qgj hE rfl (qln _ _ _) (Nat.le_of_ble_eq_true rfl) (bz hv1) hBd hBd fun S q pc hS hq hC hE => ?_
    conv=>whnf
    refine qad ((show ((0:Int) == Int.ofNat P) = false from qow (a :=0) (by omega))) ?_
    conv=>whnf
    refine qdq hE hS (A :=Nat) [] (fun x hx => hx) [0,2,3,4,6,22,23] (fun i => [(24,nv i)]) (fun _ => []) (fun _ => []) (fun i => i ≤ TL.length ∧ ∀ q u,(∃ j,j < i ∧ q.1 = gn TL j) → ¬ Wt (fun n => n ∈ TL) (k + 1) x y (qca []) (q :: u)) (fun i => TL.length - i) 0 (Nat.le_of_ble_eq_true rfl) trivial rfl (by repeat' (first | exact BdO.mono (Nat.le_of_ble_eq_true rfl) hX | exact hX | exact bz lT | exact bz lN | exact bz lS | exact bz lM | exact zZ | apply And.intro)) (by refine ⟨rfl,rfl,rfl,rfl,rfl,rfl,5,rfl,?_,?_,?_,?_,by kernel_rfl⟩ <;> repeat' (first | exact BdO.mono (Nat.le_of_ble_eq_true rfl) hX | exact hX | exact bz lT | exact bz lN | exact bz lS | exact bz lM | exact zZ | apply And.intro)) ⟨Nat.zero_le _,fun q u ⟨j,h,_⟩ => absurd h (Nat.not_lt_zero _)⟩ ?_
    intro i ⟨hi0,hno⟩ M hM
    obtain rfl:M = 5 :=hM
    conv=>whnf
    have hi1:i < TL.length → IntKind.i64.wrap (Int.ofNat i + 1) = Int.ofNat (i + 1) :=fun h => qa2 (m :=i + 1) (by omega)
    by_cases hi:i < TL.length
    ·refine qaa ((show decide (Int.ofNat i < ((zl TL).length:Int)) = true from zT (by rw [qax];show (i:Int) < _;omega))) ?_
     conv=>whnf
     have hgi :=h60 _ (qbd TL hi)
     refine qaa (qaf (show i < (zl TL).length by rw [qax];exact hi)) ?_
     conv=>whnf
     refine qac (nthP (show nth (ivs (zl TL)) (i * 1) = some (nv (gn TL i)) by rw [qa4 (by rw [qax];exact hi),qcw TL hi])) ?_
     conv=>whnf
     refine qdq hE hS (A :=Nat) [] (fun x hx => hx) [0,2,3,4,6,9,22,23,24,30,31] (fun j => [(32,nv j)]) (fun _ => []) (fun _ => []) (fun j => j ≤ TL.length ∧ ∀ q u,q.1 = gn TL i → (∃ j',j' < j ∧ q.2 = gn TL j') → ¬ Wt (fun n => n ∈ TL) (k + 1) x y (qca []) (q :: u)) (fun j => TL.length - j) 0 (Nat.le_of_ble_eq_true rfl) trivial rfl (by repeat' (first | exact BdO.mono (Nat.le_of_ble_eq_true rfl) hX | exact hX | exact bz lT | exact bz lN | exact bz lS | exact bz lM | exact zZ | apply And.intro)) (by refine ⟨rfl,rfl,rfl,rfl,rfl,rfl,5,rfl,?_,?_,?_,?_,by kernel_rfl⟩ <;> repeat' (first | exact BdO.mono (Nat.le_of_ble_eq_true rfl) hX | exact hX | exact bz lT | exact bz lN | exact bz lS | exact bz lM | exact zZ | apply And.intro)) ⟨Nat.zero_le _,fun q u _ ⟨j,h,_⟩ => absurd h (Nat.not_lt_zero _)⟩ ?_
     intro j ⟨hj0,hnoj⟩ M hM
     obtain rfl:M = 5 :=hM
     conv=>whnf
     have hj1:j < TL.length → IntKind.i64.wrap (Int.ofNat j + 1) = Int.ofNat (j + 1) :=fun h => qa2 (m :=j + 1) (by omega)
     by_cases hj:j < TL.length
     ·refine qaa ((show decide (Int.ofNat j < ((zl TL).length:Int)) = true from zT (by rw [qax];show (j:Int) < _;omega))) ?_
      conv=>whnf
      have hgj :=h60 _ (qbd TL hj)
      refine qaa (qaf (show j < (zl TL).length by rw [qax];exact hj)) ?_
      conv=>whnf
      refine qac (nthP (show nth (ivs (zl TL)) (j * 1) = some (nv (gn TL j)) by rw [qa4 (by rw [qax];exact hj),qcw TL hj])) ?_
      conv=>whnf
      have skip:(∀ u,¬ Wt (fun n => n ∈ TL) (k + 1) x y (qca []) ((gn TL i,gn TL j) :: u)) → ∀ q u,q.1 = gn TL i → (∃ j',j' < j + 1 ∧ q.2 = gn TL j') → ¬ Wt (fun n => n ∈ TL) (k + 1) x y (qca []) (q :: u) :=fun hs q u e1 ⟨j',h1,e2⟩ => by
       by_cases e:j' = j
       ·subst e
        obtain ⟨q1,q2⟩ :=q
        have e1:q1 = gn TL i :=e1
        have e2:q2 = gn TL j' :=e2
        subst e1 e2
        exact hs u
       ·exact hnoj q u e1 ⟨j',by omega,e2⟩
      refine zd hS ?_
      conv=>whnf
      have hbf:¬ ltQ (gn TL i,gn TL j) (0,0) :=by unfold ltQ;simp
      have hprev:∀ q u,ltQ q (gn TL i,gn TL j) → ¬ Wt (fun n => n ∈ TL) (k + 1) x y (qca []) (q :: u) :=fun q u hlt hw => by
       obtain ⟨j1,k1,k2⟩ :=qdu hw.1.2.1.1.1
       obtain ⟨j2,k3,k4⟩ :=qdu hw.1.2.1.1.2
       rcases hlt with hlt | ⟨e,hlt⟩
       ·refine hno q u ⟨j1,Nat.lt_of_not_le fun h => ?_,k2.symm⟩ hw
        have h5 :=hsr.le h k1
        have hlt:q.1 < gn TL i :=hlt
        omega
       ·refine hnoj q u e ⟨j2,Nat.lt_of_not_le fun h => ?_,k4.symm⟩ hw
        have h5 :=hsr.le h k3
        have hlt:q.2 < gn TL j :=hlt
        omega
      refine Exists.elim (stF hN a b s hP.2 hTL h60 (c :=0) hlc hx hy hx2 hy2 (f :=(0,0)) (p :=(gn TL i,gn TL j)) (qbd TL hi) (qbd TL hj) hbf) fun r hr => ?_
      refine Exists.elim hr.cb fun cb hcb => ?_
      refine qab hC (hr.red) ?_
      conv=>whnf
      refine qab hC (hcb.1) ?_
      conv=>whnf
      refine q0h cb (fun hcf => ?_) (fun hct => ?_)
      ·refine qaa ((show (!cb) = true by rw [hcf];rfl)) ?_
       conv=>whnf
       exact ⟨j + 1,⟨hj,skip (hcb.2.1 hcf)⟩,by show TL.length - (j + 1) < TL.length - j;omega,Nat.le_refl _,(by refine ⟨rfl,rfl,rfl,rfl,rfl,rfl,5,rfl,?_,?_,?_,?_,by kernel_rfl⟩ <;> repeat' (first | exact ⟨_,rfl,WkV.int (hj1 hj)⟩ | exact BdO.mono (Nat.le_of_ble_eq_true rfl) hX | exact hX | exact bz lT | exact bz lN | exact bz lS | exact bz lM | exact zZ | apply And.intro))⟩
      refine qad ((show (!cb) = false by rw [hct];rfl)) ?_
      conv=>whnf
      have ihr :=ih [(gn TL i,gn TL j)] r.1 r.2 (by show 1 + k = P;omega) hr.r1 hr.r2 (hcb.2.2 hct).1 (hcb.2.2 hct).2
      refine qsn (mnT (Wt (fun n => n ∈ TL) k r.1 r.2 (gn TL i,gn TL j))) (fun hrn => ?_) (fun t hrt => ?_)
      ·have hrn2:mnT (Wt (fun n => n ∈ TL) k r.1 r.2 (qca [(gn TL i,gn TL j)])) = none :=hrn
       rw [hrn2] at ihr
       refine qat hC ?_
       conv=>whnf
       refine qap hE hS ?_
       conv=>whnf
       refine qa7 hq true (qi3 _) ?_
       conv=>whnf
       refine qat hC ?_
       conv=>whnf
       refine qc0 hS (HFun.cw (WkV.own _ _ _) ihr) (Nat.le_of_ble_eq_true rfl) [] [] rfl (fun _ h => nomatch h) (ob4 rfl rfl rfl rfl) (ob4 rfl rfl rfl rfl) ?_
       conv=>whnf
       refine zd hS ?_
       conv=>whnf
       refine qa7 hq true (qi3 _) ?_
       conv=>whnf
       exact ⟨j + 1,⟨hj,skip (hr.nt hrn)⟩,by show TL.length - (j + 1) < TL.length - j;omega,Nat.le_refl _,(by refine ⟨rfl,rfl,rfl,rfl,rfl,rfl,5,rfl,?_,?_,?_,?_,by kernel_rfl⟩ <;> repeat' (first | exact ⟨_,rfl,WkV.int (hj1 hj)⟩ | exact BdO.mono (Nat.le_of_ble_eq_true rfl) hX | exact hX | exact bz lT | exact bz lN | exact bz lS | exact bz lM | exact zZ | apply And.intro))⟩
      ·have hrt2:mnT (Wt (fun n => n ∈ TL) k r.1 r.2 (qca [(gn TL i,gn TL j)])) = some t :=hrt
       rw [hrt2] at ihr
       refine qat hC ?_
       conv=>whnf
       refine qap hE hS ?_
       conv=>whnf
       refine qa7 hq true (qi3 _) ?_
       conv=>whnf
       refine qat hC ?_
       conv=>whnf
       refine qc0 hS (HFun.cw (WkV.own _ _ _) ihr) (Nat.le_of_ble_eq_true rfl) [] [] rfl (fun _ h => nomatch h) (ob4 rfl rfl rfl rfl) (ob4 rfl rfl rfl rfl) ?_
       conv=>whnf
       refine zd hS ?_
       conv=>whnf
       refine qa7 hq false (qfz _ _ _ _) ?_
       conv=>whnf
       have hres:mnT (Wt (fun n => n ∈ TL) (k + 1) x y (qca [])) = some ((gn TL i,gn TL j) :: t) :=hr.fd t hrt hprev
       rw [hres]
       exact ⟨_,rfl,WkV.refl _,rfl,rfl,rfl,rfl,trivial⟩
     ·refine qad ((show decide (Int.ofNat j < ((zl TL).length:Int)) = false from zF (by rw [qax];show ¬ (j:Int) < _;omega))) ?_
      conv=>whnf
      refine .inl ?_
      conv=>whnf
      exact ⟨i + 1,⟨hi,fun q u ⟨j0,h1,e1⟩ hw => by
       by_cases e:j0 = i
       ·subst e
        obtain ⟨j2,k3,k4⟩ :=qdu hw.1.2.1.1.2
        exact hnoj q u e1 ⟨j2,by omega,k4.symm⟩ hw
       ·exact hno q u ⟨j0,by omega,e1⟩ hw⟩,by show TL.length - (i + 1) < TL.length - i;omega,Nat.le_refl _,(by refine ⟨rfl,rfl,rfl,rfl,rfl,rfl,5,rfl,?_,?_,?_,?_,by kernel_rfl⟩ <;> repeat' (first | exact ⟨_,rfl,WkV.int (hi1 hi)⟩ | exact BdO.mono (Nat.le_of_ble_eq_true rfl) hX | exact hX | exact bz lT | exact bz lN | exact bz lS | exact bz lM | exact zZ | apply And.intro))⟩
    ·refine qad ((show decide (Int.ofNat i < ((zl TL).length:Int)) = false from zF (by rw [qax];show ¬ (i:Int) < _;omega))) ?_
     conv=>whnf
     refine .inl ?_
     conv=>whnf
     have hres:mnT (Wt (fun n => n ∈ TL) (k + 1) x y (qca [])) = none :=qlc fun t ht => by
      cases t with
      |nil => exact absurd ht.1.1 (by simp)
      |cons q u =>
       obtain ⟨j1,k1,k2⟩ :=qdu ht.1.2.1.1.1
       exact hno q u ⟨j1,by omega,k2.symm⟩ ht
     rw [hres]
     exact ⟨_,rfl,WkV.refl _,rfl,rfl,rfl,rfl,trivial⟩
   | [p1],hlen,hv1 =>
    have hlc:1 + (k + 1) = P :=hlen
    refine qgj hE rfl (qln _ _ _) (Nat.le_of_ble_eq_true rfl) (bz hv1) hBd hBd fun S q pc hS hq hC hE => ?_
    conv=>whnf
    refine qad ((show ((1:Int) == Int.ofNat P) = false from qow (a :=1) (by omega))) ?_
    conv=>whnf
    refine qdq hE hS (A :=Nat) [] (fun x hx => hx) [0,2,3,4,6,22,23] (fun i => [(24,nv i)]) (fun _ => []) (fun _ => []) (fun i => i ≤ TL.length ∧ ∀ q u,(∃ j,j < i ∧ q.1 = gn TL j) → ¬ Wt (fun n => n ∈ TL) (k + 1) x y (qca [p1]) (q :: u)) (fun i => TL.length - i) 0 (Nat.le_of_ble_eq_true rfl) trivial rfl (by repeat' (first | exact BdO.mono (Nat.le_of_ble_eq_true rfl) hX | exact hX | exact bz lT | exact bz lN | exact bz lS | exact bz lM | exact zZ | apply And.intro)) (by refine ⟨rfl,rfl,rfl,rfl,rfl,rfl,5,rfl,?_,?_,?_,?_,by kernel_rfl⟩ <;> repeat' (first | exact BdO.mono (Nat.le_of_ble_eq_true rfl) hX | exact hX | exact bz lT | exact bz lN | exact bz lS | exact bz lM | exact zZ | apply And.intro)) ⟨Nat.zero_le _,fun q u ⟨j,h,_⟩ => absurd h (Nat.not_lt_zero _)⟩ ?_
    intro i ⟨hi0,hno⟩ M hM
    obtain rfl:M = 5 :=hM
    conv=>whnf
    have hi1:i < TL.length → IntKind.i64.wrap (Int.ofNat i + 1) = Int.ofNat (i + 1) :=fun h => qa2 (m :=i + 1) (by omega)
    by_cases hi:i < TL.length
    ·refine qaa ((show decide (Int.ofNat i < ((zl TL).length:Int)) = true from zT (by rw [qax];show (i:Int) < _;omega))) ?_
     conv=>whnf
     have hgi :=h60 _ (qbd TL hi)
     refine qaa (qaf (show i < (zl TL).length by rw [qax];exact hi)) ?_
     conv=>whnf
     refine qac (nthP (show nth (ivs (zl TL)) (i * 1) = some (nv (gn TL i)) by rw [qa4 (by rw [qax];exact hi),qcw TL hi])) ?_
     conv=>whnf
     refine qdq hE hS (A :=Nat) [] (fun x hx => hx) [0,2,3,4,6,9,22,23,24,30,31] (fun j => [(32,nv j)]) (fun _ => []) (fun _ => []) (fun j => j ≤ TL.length ∧ ∀ q u,q.1 = gn TL i → (∃ j',j' < j ∧ q.2 = gn TL j') → ¬ Wt (fun n => n ∈ TL) (k + 1) x y (qca [p1]) (q :: u)) (fun j => TL.length - j) 0 (Nat.le_of_ble_eq_true rfl) trivial rfl (by repeat' (first | exact BdO.mono (Nat.le_of_ble_eq_true rfl) hX | exact hX | exact bz lT | exact bz lN | exact bz lS | exact bz lM | exact zZ | apply And.intro)) (by refine ⟨rfl,rfl,rfl,rfl,rfl,rfl,5,rfl,?_,?_,?_,?_,by kernel_rfl⟩ <;> repeat' (first | exact BdO.mono (Nat.le_of_ble_eq_true rfl) hX | exact hX | exact bz lT | exact bz lN | exact bz lS | exact bz lM | exact zZ | apply And.intro)) ⟨Nat.zero_le _,fun q u _ ⟨j,h,_⟩ => absurd h (Nat.not_lt_zero _)⟩ ?_
     intro j ⟨hj0,hnoj⟩ M hM
     obtain rfl:M = 5 :=hM
     conv=>whnf
     have hj1:j < TL.length → IntKind.i64.wrap (Int.ofNat j + 1) = Int.ofNat (j + 1) :=fun h => qa2 (m :=j + 1) (by omega)
     by_cases hj:j < TL.length
     ·refine qaa ((show decide (Int.ofNat j < ((zl TL).length:Int)) = true from zT (by rw [qax];show (j:Int) < _;omega))) ?_
      conv=>whnf
      have hgj :=h60 _ (qbd TL hj)
      refine qaa (qaf (show j < (zl TL).length by rw [qax];exact hj)) ?_
      conv=>whnf
      refine qac (nthP (show nth (ivs (zl TL)) (j * 1) = some (nv (gn TL j)) by rw [qa4 (by rw [qax];exact hj),qcw TL hj])) ?_
      conv=>whnf
      have skip:(∀ u,¬ Wt (fun n => n ∈ TL) (k + 1) x y (qca [p1]) ((gn TL i,gn TL j) :: u)) → ∀ q u,q.1 = gn TL i → (∃ j',j' < j + 1 ∧ q.2 = gn TL j') → ¬ Wt (fun n => n ∈ TL) (k + 1) x y (qca [p1]) (q :: u) :=fun hs q u e1 ⟨j',h1,e2⟩ => by
       by_cases e:j' = j
       ·subst e
        obtain ⟨q1,q2⟩ :=q
        have e1:q1 = gn TL i :=e1
        have e2:q2 = gn TL j' :=e2
        subst e1 e2
        exact hs u
       ·exact hnoj q u e1 ⟨j',by omega,e2⟩
      refine qaa ((show inR (IntKind.i64.wrap (((zp [p1]).length:Int) - 1)) (zp [p1]).length = true by rw [(show IntKind.i64.wrap (((zp [p1]).length:Int) - 1) = 0 from qas (by show _ ≤ (0:Int);decide) (by show (0:Int) < _;decide))];rfl)) ?_
      conv=>whnf
      refine qac (takP (show qdk 2 (qew ((IntKind.i64.wrap (((zp [p1]).length:Int) - 1)).toNat * 2) (flat (zp [p1]))) = some [nv p1.1,nv p1.2] by rw [(show IntKind.i64.wrap (((zp [p1]).length:Int) - 1) = 0 from qas (by show _ ≤ (0:Int);decide) (by show (0:Int) < _;decide))];rfl)) ?_
      conv=>whnf
      refine qab hC (qe8 (Int.ofNat (gn TL i)) (Int.ofNat (gn TL j)) (Int.ofNat p1.1) (Int.ofNat p1.2)) ?_
      conv=>whnf
      refine zd hS ?_
      conv=>whnf
      by_cases hbf:ltQ (gn TL i,gn TL j) p1
      ·refine qaa (zT (qld.2 hbf)) ?_
       conv=>whnf
       have hs:∀ u,¬ Wt (fun n => n ∈ TL) (k + 1) x y (qca [p1]) ((gn TL i,gn TL j) :: u) :=fun u hw => hw.1.2.2.1 hbf
       refine qaa ((show inR (IntKind.i64.wrap (((zp [p1]).length:Int) - 1)) (zp [p1]).length = true by rw [(show IntKind.i64.wrap (((zp [p1]).length:Int) - 1) = 0 from qas (by show _ ≤ (0:Int);decide) (by show (0:Int) < _;decide))];rfl)) ?_
       conv=>whnf
       refine qac (nthP (show nth (flat (zp [p1])) ((IntKind.i64.wrap (((zp [p1]).length:Int) - 1)).toNat * 2 + 0) = some (nv p1.1) by rw [(show IntKind.i64.wrap (((zp [p1]).length:Int) - 1) = 0 from qas (by show _ ≤ (0:Int);decide) (by show (0:Int) < _;decide))];rfl)) ?_
       conv=>whnf
       by_cases hbg:gn TL i < p1.1
       ·refine qaa (qch hbg) ?_
        conv=>whnf
        refine .inl ?_
        conv=>whnf
        exact ⟨i + 1,⟨hi,fun q u ⟨j0,h1,e1⟩ hw => by
         by_cases e:j0 = i
         ·subst e
          exact hw.1.2.2.1 (.inl (by rw [e1];exact hbg))
         ·exact hno q u ⟨j0,by omega,e1⟩ hw⟩,by show TL.length - (i + 1) < TL.length - i;omega,Nat.le_refl _,(by refine ⟨rfl,rfl,rfl,rfl,rfl,rfl,5,rfl,?_,?_,?_,?_,by kernel_rfl⟩ <;> repeat' (first | exact ⟨_,rfl,WkV.int (hi1 hi)⟩ | exact BdO.mono (Nat.le_of_ble_eq_true rfl) hX | exact hX | exact bz lT | exact bz lN | exact bz lS | exact bz lM | exact zZ | apply And.intro))⟩
       ·refine qad (qcl hbg) ?_
        conv=>whnf
        exact ⟨j + 1,⟨hj,skip (hs)⟩,by show TL.length - (j + 1) < TL.length - j;omega,Nat.le_refl _,(by refine ⟨rfl,rfl,rfl,rfl,rfl,rfl,5,rfl,?_,?_,?_,?_,by kernel_rfl⟩ <;> repeat' (first | exact ⟨_,rfl,WkV.int (hj1 hj)⟩ | exact BdO.mono (Nat.le_of_ble_eq_true rfl) hX | exact hX | exact bz lT | exact bz lN | exact bz lS | exact bz lM | exact zZ | apply And.intro))⟩
      refine qad (zF (fun k => hbf (qld.1 k))) ?_
      conv=>whnf
      have hprev:∀ q u,ltQ q (gn TL i,gn TL j) → ¬ Wt (fun n => n ∈ TL) (k + 1) x y (qca [p1]) (q :: u) :=fun q u hlt hw => by
       obtain ⟨j1,k1,k2⟩ :=qdu hw.1.2.1.1.1
       obtain ⟨j2,k3,k4⟩ :=qdu hw.1.2.1.1.2
       rcases hlt with hlt | ⟨e,hlt⟩
       ·refine hno q u ⟨j1,Nat.lt_of_not_le fun h => ?_,k2.symm⟩ hw
        have h5 :=hsr.le h k1
        have hlt:q.1 < gn TL i :=hlt
        omega
       ·refine hnoj q u e ⟨j2,Nat.lt_of_not_le fun h => ?_,k4.symm⟩ hw
        have h5 :=hsr.le h k3
        have hlt:q.2 < gn TL j :=hlt
        omega
      refine Exists.elim (stF hN a b s hP.2 hTL h60 (c :=1) hlc hx hy hx2 hy2 (f :=p1) (p :=(gn TL i,gn TL j)) (qbd TL hi) (qbd TL hj) hbf) fun r hr => ?_
      refine Exists.elim hr.cb fun cb hcb => ?_
      refine qab hC (hr.red) ?_
      conv=>whnf
      refine qab hC (hcb.1) ?_
      conv=>whnf
      refine q0h cb (fun hcf => ?_) (fun hct => ?_)
      ·refine qaa ((show (!cb) = true by rw [hcf];rfl)) ?_
       conv=>whnf
       exact ⟨j + 1,⟨hj,skip (hcb.2.1 hcf)⟩,by show TL.length - (j + 1) < TL.length - j;omega,Nat.le_refl _,(by refine ⟨rfl,rfl,rfl,rfl,rfl,rfl,5,rfl,?_,?_,?_,?_,by kernel_rfl⟩ <;> repeat' (first | exact ⟨_,rfl,WkV.int (hj1 hj)⟩ | exact BdO.mono (Nat.le_of_ble_eq_true rfl) hX | exact hX | exact bz lT | exact bz lN | exact bz lS | exact bz lM | exact zZ | apply And.intro))⟩
      refine qad ((show (!cb) = false by rw [hct];rfl)) ?_
      conv=>whnf
      have ihr :=ih [p1,(gn TL i,gn TL j)] r.1 r.2 (by show 2 + k = P;omega) hr.r1 hr.r2 (hcb.2.2 hct).1 (hcb.2.2 hct).2
      refine qsn (mnT (Wt (fun n => n ∈ TL) k r.1 r.2 (gn TL i,gn TL j))) (fun hrn => ?_) (fun t hrt => ?_)
      ·have hrn2:mnT (Wt (fun n => n ∈ TL) k r.1 r.2 (qca [p1,(gn TL i,gn TL j)])) = none :=hrn
       rw [hrn2] at ihr
       refine qat hC ?_
       conv=>whnf
       refine qap hE hS ?_
       conv=>whnf
       refine qa7 hq false (qfz _ _ _ _) ?_
       conv=>whnf
       refine qat hC ?_
       conv=>whnf
       refine qc0 hS (HFun.cw (WkV.own _ _ _) ihr) (Nat.le_of_ble_eq_true rfl) [] [] rfl (fun _ h => nomatch h) (ob4 rfl rfl rfl rfl) (ob4 rfl rfl rfl rfl) ?_
       conv=>whnf
       refine zd hS ?_
       conv=>whnf
       refine qa7 hq true (qi3 _) ?_
       conv=>whnf
       exact ⟨j + 1,⟨hj,skip (hr.nt hrn)⟩,by show TL.length - (j + 1) < TL.length - j;omega,Nat.le_refl _,(by refine ⟨rfl,rfl,rfl,rfl,rfl,rfl,5,rfl,?_,?_,?_,?_,by kernel_rfl⟩ <;> repeat' (first | exact ⟨_,rfl,WkV.int (hj1 hj)⟩ | exact BdO.mono (Nat.le_of_ble_eq_true rfl) hX | exact hX | exact bz lT | exact bz lN | exact bz lS | exact bz lM | exact zZ | apply And.intro))⟩
      ·have hrt2:mnT (Wt (fun n => n ∈ TL) k r.1 r.2 (qca [p1,(gn TL i,gn TL j)])) = some t :=hrt
       rw [hrt2] at ihr
       refine qat hC ?_
       conv=>whnf
       refine qap hE hS ?_
       conv=>whnf
       refine qa7 hq false (qfz _ _ _ _) ?_
       conv=>whnf
       refine qat hC ?_
       conv=>whnf
       refine qc0 hS (HFun.cw (WkV.own _ _ _) ihr) (Nat.le_of_ble_eq_true rfl) [] [] rfl (fun _ h => nomatch h) (ob4 rfl rfl rfl rfl) (ob4 rfl rfl rfl rfl) ?_
       conv=>whnf
       refine zd hS ?_
       conv=>whnf
       refine qa7 hq false (qfz _ _ _ _) ?_
       conv=>whnf
       have hres:mnT (Wt (fun n => n ∈ TL) (k + 1) x y (qca [p1])) = some ((gn TL i,gn TL j) :: t) :=hr.fd t hrt hprev
       rw [hres]
       exact ⟨_,rfl,WkV.refl _,rfl,rfl,rfl,rfl,trivial⟩
     ·refine qad ((show decide (Int.ofNat j < ((zl TL).length:Int)) = false from zF (by rw [qax];show ¬ (j:Int) < _;omega))) ?_
      conv=>whnf
      refine .inl ?_
      conv=>whnf
      exact ⟨i + 1,⟨hi,fun q u ⟨j0,h1,e1⟩ hw => by
       by_cases e:j0 = i
       ·subst e
        obtain ⟨j2,k3,k4⟩ :=qdu hw.1.2.1.1.2
        exact hnoj q u e1 ⟨j2,by omega,k4.symm⟩ hw
       ·exact hno q u ⟨j0,by omega,e1⟩ hw⟩,by show TL.length - (i + 1) < TL.length - i;omega,Nat.le_refl _,(by refine ⟨rfl,rfl,rfl,rfl,rfl,rfl,5,rfl,?_,?_,?_,?_,by kernel_rfl⟩ <;> repeat' (first | exact ⟨_,rfl,WkV.int (hi1 hi)⟩ | exact BdO.mono (Nat.le_of_ble_eq_true rfl) hX | exact hX | exact bz lT | exact bz lN | exact bz lS | exact bz lM | exact zZ | apply And.intro))⟩
    ·refine qad ((show decide (Int.ofNat i < ((zl TL).length:Int)) = false from zF (by rw [qax];show ¬ (i:Int) < _;omega))) ?_
     conv=>whnf
     refine .inl ?_
     conv=>whnf
     have hres:mnT (Wt (fun n => n ∈ TL) (k + 1) x y (qca [p1])) = none :=qlc fun t ht => by
      cases t with
      |nil => exact absurd ht.1.1 (by simp)
      |cons q u =>
       obtain ⟨j1,k1,k2⟩ :=qdu ht.1.2.1.1.1
       exact hno q u ⟨j1,by omega,k2.symm⟩ ht
     rw [hres]
     exact ⟨_,rfl,WkV.refl _,rfl,rfl,rfl,rfl,trivial⟩
   | [p1,p2],hlen,hv1 =>
    have hlc:2 + (k + 1) = P :=hlen
    refine qgj hE rfl (qln _ _ _) (Nat.le_of_ble_eq_true rfl) (bz hv1) hBd hBd fun S q pc hS hq hC hE => ?_
    conv=>whnf
    refine qad ((show ((2:Int) == Int.ofNat P) = false from qow (a :=2) (by omega))) ?_
    conv=>whnf
    refine qdq hE hS (A :=Nat) [] (fun x hx => hx) [0,2,3,4,6,22,23] (fun i => [(24,nv i)]) (fun _ => []) (fun _ => []) (fun i => i ≤ TL.length ∧ ∀ q u,(∃ j,j < i ∧ q.1 = gn TL j) → ¬ Wt (fun n => n ∈ TL) (k + 1) x y (qca [p1,p2]) (q :: u)) (fun i => TL.length - i) 0 (Nat.le_of_ble_eq_true rfl) trivial rfl (by repeat' (first | exact BdO.mono (Nat.le_of_ble_eq_true rfl) hX | exact hX | exact bz lT | exact bz lN | exact bz lS | exact bz lM | exact zZ | apply And.intro)) (by refine ⟨rfl,rfl,rfl,rfl,rfl,rfl,5,rfl,?_,?_,?_,?_,by kernel_rfl⟩ <;> repeat' (first | exact BdO.mono (Nat.le_of_ble_eq_true rfl) hX | exact hX | exact bz lT | exact bz lN | exact bz lS | exact bz lM | exact zZ | apply And.intro)) ⟨Nat.zero_le _,fun q u ⟨j,h,_⟩ => absurd h (Nat.not_lt_zero _)⟩ ?_
    intro i ⟨hi0,hno⟩ M hM
    obtain rfl:M = 5 :=hM
    conv=>whnf
    have hi1:i < TL.length → IntKind.i64.wrap (Int.ofNat i + 1) = Int.ofNat (i + 1) :=fun h => qa2 (m :=i + 1) (by omega)
    by_cases hi:i < TL.length
    ·refine qaa ((show decide (Int.ofNat i < ((zl TL).length:Int)) = true from zT (by rw [qax];show (i:Int) < _;omega))) ?_
     conv=>whnf
     have hgi :=h60 _ (qbd TL hi)
     refine qaa (qaf (show i < (zl TL).length by rw [qax];exact hi)) ?_
     conv=>whnf
     refine qac (nthP (show nth (ivs (zl TL)) (i * 1) = some (nv (gn TL i)) by rw [qa4 (by rw [qax];exact hi),qcw TL hi])) ?_
     conv=>whnf
     refine qdq hE hS (A :=Nat) [] (fun x hx => hx) [0,2,3,4,6,9,22,23,24,30,31] (fun j => [(32,nv j)]) (fun _ => []) (fun _ => []) (fun j => j ≤ TL.length ∧ ∀ q u,q.1 = gn TL i → (∃ j',j' < j ∧ q.2 = gn TL j') → ¬ Wt (fun n => n ∈ TL) (k + 1) x y (qca [p1,p2]) (q :: u)) (fun j => TL.length - j) 0 (Nat.le_of_ble_eq_true rfl) trivial rfl (by repeat' (first | exact BdO.mono (Nat.le_of_ble_eq_true rfl) hX | exact hX | exact bz lT | exact bz lN | exact bz lS | exact bz lM | exact zZ | apply And.intro)) (by refine ⟨rfl,rfl,rfl,rfl,rfl,rfl,5,rfl,?_,?_,?_,?_,by kernel_rfl⟩ <;> repeat' (first | exact BdO.mono (Nat.le_of_ble_eq_true rfl) hX | exact hX | exact bz lT | exact bz lN | exact bz lS | exact bz lM | exact zZ | apply And.intro)) ⟨Nat.zero_le _,fun q u _ ⟨j,h,_⟩ => absurd h (Nat.not_lt_zero _)⟩ ?_
     intro j ⟨hj0,hnoj⟩ M hM
     obtain rfl:M = 5 :=hM
     conv=>whnf
     have hj1:j < TL.length → IntKind.i64.wrap (Int.ofNat j + 1) = Int.ofNat (j + 1) :=fun h => qa2 (m :=j + 1) (by omega)
     by_cases hj:j < TL.length
     ·refine qaa ((show decide (Int.ofNat j < ((zl TL).length:Int)) = true from zT (by rw [qax];show (j:Int) < _;omega))) ?_
      conv=>whnf
      have hgj :=h60 _ (qbd TL hj)
      refine qaa (qaf (show j < (zl TL).length by rw [qax];exact hj)) ?_
      conv=>whnf
      refine qac (nthP (show nth (ivs (zl TL)) (j * 1) = some (nv (gn TL j)) by rw [qa4 (by rw [qax];exact hj),qcw TL hj])) ?_
      conv=>whnf
      have skip:(∀ u,¬ Wt (fun n => n ∈ TL) (k + 1) x y (qca [p1,p2]) ((gn TL i,gn TL j) :: u)) → ∀ q u,q.1 = gn TL i → (∃ j',j' < j + 1 ∧ q.2 = gn TL j') → ¬ Wt (fun n => n ∈ TL) (k + 1) x y (qca [p1,p2]) (q :: u) :=fun hs q u e1 ⟨j',h1,e2⟩ => by
       by_cases e:j' = j
       ·subst e
        obtain ⟨q1,q2⟩ :=q
        have e1:q1 = gn TL i :=e1
        have e2:q2 = gn TL j' :=e2
        subst e1 e2
        exact hs u
       ·exact hnoj q u e1 ⟨j',by omega,e2⟩
      refine qaa ((show inR (IntKind.i64.wrap (((zp [p1,p2]).length:Int) - 1)) (zp [p1,p2]).length = true by rw [(show IntKind.i64.wrap (((zp [p1,p2]).length:Int) - 1) = 1 from qas (by show _ ≤ (1:Int);decide) (by show (1:Int) < _;decide))];rfl)) ?_
      conv=>whnf
      refine qac (takP (show qdk 2 (qew ((IntKind.i64.wrap (((zp [p1,p2]).length:Int) - 1)).toNat * 2) (flat (zp [p1,p2]))) = some [nv p2.1,nv p2.2] by rw [(show IntKind.i64.wrap (((zp [p1,p2]).length:Int) - 1) = 1 from qas (by show _ ≤ (1:Int);decide) (by show (1:Int) < _;decide))];rfl)) ?_
      conv=>whnf
      refine qab hC (qe8 (Int.ofNat (gn TL i)) (Int.ofNat (gn TL j)) (Int.ofNat p2.1) (Int.ofNat p2.2)) ?_
      conv=>whnf
      refine zd hS ?_
      conv=>whnf
      by_cases hbf:ltQ (gn TL i,gn TL j) p2
      ·refine qaa (zT (qld.2 hbf)) ?_
       conv=>whnf
       have hs:∀ u,¬ Wt (fun n => n ∈ TL) (k + 1) x y (qca [p1,p2]) ((gn TL i,gn TL j) :: u) :=fun u hw => hw.1.2.2.1 hbf
       refine qaa ((show inR (IntKind.i64.wrap (((zp [p1,p2]).length:Int) - 1)) (zp [p1,p2]).length = true by rw [(show IntKind.i64.wrap (((zp [p1,p2]).length:Int) - 1) = 1 from qas (by show _ ≤ (1:Int);decide) (by show (1:Int) < _;decide))];rfl)) ?_
       conv=>whnf
       refine qac (nthP (show nth (flat (zp [p1,p2])) ((IntKind.i64.wrap (((zp [p1,p2]).length:Int) - 1)).toNat * 2 + 0) = some (nv p2.1) by rw [(show IntKind.i64.wrap (((zp [p1,p2]).length:Int) - 1) = 1 from qas (by show _ ≤ (1:Int);decide) (by show (1:Int) < _;decide))];rfl)) ?_
       conv=>whnf
       by_cases hbg:gn TL i < p2.1
       ·refine qaa (qch hbg) ?_
        conv=>whnf
        refine .inl ?_
        conv=>whnf
        exact ⟨i + 1,⟨hi,fun q u ⟨j0,h1,e1⟩ hw => by
         by_cases e:j0 = i
         ·subst e
          exact hw.1.2.2.1 (.inl (by rw [e1];exact hbg))
         ·exact hno q u ⟨j0,by omega,e1⟩ hw⟩,by show TL.length - (i + 1) < TL.length - i;omega,Nat.le_refl _,(by refine ⟨rfl,rfl,rfl,rfl,rfl,rfl,5,rfl,?_,?_,?_,?_,by kernel_rfl⟩ <;> repeat' (first | exact ⟨_,rfl,WkV.int (hi1 hi)⟩ | exact BdO.mono (Nat.le_of_ble_eq_true rfl) hX | exact hX | exact bz lT | exact bz lN | exact bz lS | exact bz lM | exact zZ | apply And.intro))⟩
       ·refine qad (qcl hbg) ?_
        conv=>whnf
        exact ⟨j + 1,⟨hj,skip (hs)⟩,by show TL.length - (j + 1) < TL.length - j;omega,Nat.le_refl _,(by refine ⟨rfl,rfl,rfl,rfl,rfl,rfl,5,rfl,?_,?_,?_,?_,by kernel_rfl⟩ <;> repeat' (first | exact ⟨_,rfl,WkV.int (hj1 hj)⟩ | exact BdO.mono (Nat.le_of_ble_eq_true rfl) hX | exact hX | exact bz lT | exact bz lN | exact bz lS | exact bz lM | exact zZ | apply And.intro))⟩
      refine qad (zF (fun k => hbf (qld.1 k))) ?_
      conv=>whnf
      have hprev:∀ q u,ltQ q (gn TL i,gn TL j) → ¬ Wt (fun n => n ∈ TL) (k + 1) x y (qca [p1,p2]) (q :: u) :=fun q u hlt hw => by
       obtain ⟨j1,k1,k2⟩ :=qdu hw.1.2.1.1.1
       obtain ⟨j2,k3,k4⟩ :=qdu hw.1.2.1.1.2
       rcases hlt with hlt | ⟨e,hlt⟩
       ·refine hno q u ⟨j1,Nat.lt_of_not_le fun h => ?_,k2.symm⟩ hw
        have h5 :=hsr.le h k1
        have hlt:q.1 < gn TL i :=hlt
        omega
       ·refine hnoj q u e ⟨j2,Nat.lt_of_not_le fun h => ?_,k4.symm⟩ hw
        have h5 :=hsr.le h k3
        have hlt:q.2 < gn TL j :=hlt
        omega
      refine Exists.elim (stF hN a b s hP.2 hTL h60 (c :=2) hlc hx hy hx2 hy2 (f :=p2) (p :=(gn TL i,gn TL j)) (qbd TL hi) (qbd TL hj) hbf) fun r hr => ?_
      refine Exists.elim hr.cb fun cb hcb => ?_
      refine qab hC (hr.red) ?_
      conv=>whnf
      refine qab hC (hcb.1) ?_
      conv=>whnf
      refine q0h cb (fun hcf => ?_) (fun hct => ?_)
      ·refine qaa ((show (!cb) = true by rw [hcf];rfl)) ?_
       conv=>whnf
       exact ⟨j + 1,⟨hj,skip (hcb.2.1 hcf)⟩,by show TL.length - (j + 1) < TL.length - j;omega,Nat.le_refl _,(by refine ⟨rfl,rfl,rfl,rfl,rfl,rfl,5,rfl,?_,?_,?_,?_,by kernel_rfl⟩ <;> repeat' (first | exact ⟨_,rfl,WkV.int (hj1 hj)⟩ | exact BdO.mono (Nat.le_of_ble_eq_true rfl) hX | exact hX | exact bz lT | exact bz lN | exact bz lS | exact bz lM | exact zZ | apply And.intro))⟩
      refine qad ((show (!cb) = false by rw [hct];rfl)) ?_
      conv=>whnf
      have ihr :=ih [p1,p2,(gn TL i,gn TL j)] r.1 r.2 (by show 3 + k = P;omega) hr.r1 hr.r2 (hcb.2.2 hct).1 (hcb.2.2 hct).2
      refine qsn (mnT (Wt (fun n => n ∈ TL) k r.1 r.2 (gn TL i,gn TL j))) (fun hrn => ?_) (fun t hrt => ?_)
      ·have hrn2:mnT (Wt (fun n => n ∈ TL) k r.1 r.2 (qca [p1,p2,(gn TL i,gn TL j)])) = none :=hrn
       rw [hrn2] at ihr
       refine qat hC ?_
       conv=>whnf
       refine qap hE hS ?_
       conv=>whnf
       refine qa7 hq false (qfz _ _ _ _) ?_
       conv=>whnf
       refine qat hC ?_
       conv=>whnf
       refine qc0 hS (HFun.cw (WkV.own _ _ _) ihr) (Nat.le_of_ble_eq_true rfl) [] [] rfl (fun _ h => nomatch h) (ob4 rfl rfl rfl rfl) (ob4 rfl rfl rfl rfl) ?_
       conv=>whnf
       refine zd hS ?_
       conv=>whnf
       refine qa7 hq true (qi3 _) ?_
       conv=>whnf
       exact ⟨j + 1,⟨hj,skip (hr.nt hrn)⟩,by show TL.length - (j + 1) < TL.length - j;omega,Nat.le_refl _,(by refine ⟨rfl,rfl,rfl,rfl,rfl,rfl,5,rfl,?_,?_,?_,?_,by kernel_rfl⟩ <;> repeat' (first | exact ⟨_,rfl,WkV.int (hj1 hj)⟩ | exact BdO.mono (Nat.le_of_ble_eq_true rfl) hX | exact hX | exact bz lT | exact bz lN | exact bz lS | exact bz lM | exact zZ | apply And.intro))⟩
      ·have hrt2:mnT (Wt (fun n => n ∈ TL) k r.1 r.2 (qca [p1,p2,(gn TL i,gn TL j)])) = some t :=hrt
       rw [hrt2] at ihr
       refine qat hC ?_
       conv=>whnf
       refine qap hE hS ?_
       conv=>whnf
       refine qa7 hq false (qfz _ _ _ _) ?_
       conv=>whnf
       refine qat hC ?_
       conv=>whnf
       refine qc0 hS (HFun.cw (WkV.own _ _ _) ihr) (Nat.le_of_ble_eq_true rfl) [] [] rfl (fun _ h => nomatch h) (ob4 rfl rfl rfl rfl) (ob4 rfl rfl rfl rfl) ?_
       conv=>whnf
       refine zd hS ?_
       conv=>whnf
       refine qa7 hq false (qfz _ _ _ _) ?_
       conv=>whnf
       have hres:mnT (Wt (fun n => n ∈ TL) (k + 1) x y (qca [p1,p2])) = some ((gn TL i,gn TL j) :: t) :=hr.fd t hrt hprev
       rw [hres]
       exact ⟨_,rfl,WkV.refl _,rfl,rfl,rfl,rfl,trivial⟩
     ·refine qad ((show decide (Int.ofNat j < ((zl TL).length:Int)) = false from zF (by rw [qax];show ¬ (j:Int) < _;omega))) ?_
      conv=>whnf
      refine .inl ?_
      conv=>whnf
      exact ⟨i + 1,⟨hi,fun q u ⟨j0,h1,e1⟩ hw => by
       by_cases e:j0 = i
       ·subst e
        obtain ⟨j2,k3,k4⟩ :=qdu hw.1.2.1.1.2
        exact hnoj q u e1 ⟨j2,by omega,k4.symm⟩ hw
       ·exact hno q u ⟨j0,by omega,e1⟩ hw⟩,by show TL.length - (i + 1) < TL.length - i;omega,Nat.le_refl _,(by refine ⟨rfl,rfl,rfl,rfl,rfl,rfl,5,rfl,?_,?_,?_,?_,by kernel_rfl⟩ <;> repeat' (first | exact ⟨_,rfl,WkV.int (hi1 hi)⟩ | exact BdO.mono (Nat.le_of_ble_eq_true rfl) hX | exact hX | exact bz lT | exact bz lN | exact bz lS | exact bz lM | exact zZ | apply And.intro))⟩
    ·refine qad ((show decide (Int.ofNat i < ((zl TL).length:Int)) = false from zF (by rw [qax];show ¬ (i:Int) < _;omega))) ?_
     conv=>whnf
     refine .inl ?_
     conv=>whnf
     have hres:mnT (Wt (fun n => n ∈ TL) (k + 1) x y (qca [p1,p2])) = none :=qlc fun t ht => by
      cases t with
      |nil => exact absurd ht.1.1 (by simp)
      |cons q u =>
       obtain ⟨j1,k1,k2⟩ :=qdu ht.1.2.1.1.1
       exact hno q u ⟨j1,by omega,k2.symm⟩ ht
     rw [hres]
     exact ⟨_,rfl,WkV.refl _,rfl,rfl,rfl,rfl,trivial⟩
   |p1 :: p2 :: p3 :: r,hlen,_ => exact absurd hlen (by rw [List.length_cons,List.length_cons,List.length_cons];omega)
end
end Go.Abs.Seat

