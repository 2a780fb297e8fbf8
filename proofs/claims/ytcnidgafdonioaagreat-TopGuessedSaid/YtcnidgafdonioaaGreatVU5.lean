/-
  Loops at whose heads objects may be known less, and after which more may count as written.
-/
import Derived.Test.YtcnidgafdonioaaGreatVU4
/-! Loops at whose heads objects may be known less, and after which more may count as written. -/
namespace Go.Abs
open Go
noncomputable section
def TWk:Tr AV → Tr AV → Prop :=@Tr.rec AV (fun _ => Tr AV → Prop) (fun t => @Tr.rec AV (fun _ => Prop) True (fun _ _ _ _ _ => False) t) (fun v _ _ ihl ihr t => @Tr.rec AV (fun _ => Prop) False (fun v' l' r' _ _ => WkV v v' ∧ ihl l' ∧ ihr r') t)
theorem TWk.get1:∀ (p:Pa) (t t':Tr AV),TWk t t' → ∀ a,Tr.getP p t' = some a → ∃ z,Tr.getP p t = some z ∧ WkV z a
 | .e,.nil,.nil,_,a,h => by cases h
 | .e,.node v _ _,.node v' _ _,k,a,h => by cases h;exact ⟨v,rfl,k.1⟩
 | .l _,.nil,.nil,_,a,h => by cases h
 | .r _,.nil,.nil,_,a,h => by cases h
 | .l p,.node _ l _,.node _ l' _,k,a,h => TWk.get1 p l l' k.2.1 a h
 | .r p,.node _ _ r,.node _ _ r',k,a,h => TWk.get1 p r r' k.2.2 a h
 | _,.nil,.node _ _ _,k,_,_ => k.elim
 | _,.node _ _ _,.nil,k,_,_ => k.elim
theorem TWk.get2:∀ (p:Pa) (t t':Tr AV),TWk t t' → ∀ z,Tr.getP p t = some z → ∃ a,Tr.getP p t' = some a ∧ WkV z a
 | .e,.nil,.nil,_,a,h => by cases h
 | .e,.node v _ _,.node v' _ _,k,a,h => by cases h;exact ⟨v',rfl,k.1⟩
 | .l _,.nil,.nil,_,a,h => by cases h
 | .r _,.nil,.nil,_,a,h => by cases h
 | .l p,.node _ l _,.node _ l' _,k,a,h => TWk.get2 p l l' k.2.1 a h
 | .r p,.node _ _ r,.node _ _ r',k,a,h => TWk.get2 p r r' k.2.2 a h
 | _,.nil,.node _ _ _,k,_,_ => k.elim
 | _,.node _ _ _,.nil,k,_,_ => k.elim
inductive OWk:AObj → AObj → Prop
 |same (x:AObj):OWk x x
 |cells {t t':Tr AV} (n:Nat) (ty:TypeId) (h:TWk t t'):OWk (.cells t n ty) (.cells t' n ty)
 |loop (st:LoopState) (fn:FuncId) {tm tm':Tr AV} (nt:Nat) (ps:List Tmp) (as bo:Code) (df:Nat) (h:TWk tm tm'):OWk (.loop st fn tm nt ps as bo df) (.loop st fn tm' nt ps as bo df)
 |iter (m since:Nat) (seen:List Nat) (last:Nat):OWk (.miter m since seen last) (.miter m since [] 0)
theorem OWk.hole {x y:AObj} (h:OWk x y):x = .hole ↔ y = .hole :=by cases h <;> first | exact Iff.rfl | exact ⟨fun e => (nomatch e),fun e => (nomatch e)⟩
theorem OWk.bk {x y:AObj} (h:OWk x y) (g:Gh) (i:Nat):g.bk y i = g.bk x i :=by cases h <;> rfl
theorem OWk.rel {x y:AObj} (h:OWk x y) {g:Gh} {w:World} {i:Nat} (k:ORel g w i x):ORel g w i y :=by
 cases h with
 |same => exact k
 |iter m since seen last =>
  obtain ⟨sn,l,_,h1,h2⟩ :=k
  exact ⟨sn,l,fun e => absurd rfl e,h1,h2⟩
 |cells n ty h =>
  obtain ⟨arr,h1,h2,h3,h4⟩ :=k
  refine ⟨arr,h1,h2,h3,fun j hj => ?_⟩
  obtain ⟨a,v,q1,q2,q3⟩ :=h4 j hj
  obtain ⟨a',r1,r2⟩ :=TWk.get2 _ _ _ h a q1
  exact ⟨a',v,r1,q2,r2.wk _ _ _ q3⟩
 |loop st fn nt ps as bo df h =>
  obtain ⟨l,h1,h2,h3,h4,h5,h6⟩ :=k
  refine ⟨l,h1,h2,h3,h4,fun j a hj => ?_,h6⟩
  obtain ⟨z,r1,r2⟩ :=TWk.get1 _ _ _ h a hj
  exact ⟨(h5 j z r1).1,r2.wk _ _ _ (h5 j z r1).2⟩
theorem OWk.live {x y:AObj} (h:OWk x y) {L:Nat → Prop} (k:OLive L x):OLive L y :=by
 cases h with
 |same => exact k
 |iter => exact k
 |cells n ty h =>
  intro j a hj
  obtain ⟨z,r1,r2⟩ :=TWk.get1 _ _ _ h a hj
  exact r2.lv _ (k j z r1)
 |loop st fn nt ps as bo df h =>
  refine ⟨fun j a hj => ?_,k.2⟩
  obtain ⟨z,r1,r2⟩ :=TWk.get1 _ _ _ h a hj
  exact r2.lv _ (k.1 j z r1)
theorem HRel.cutO {g:Gh} {B:Nat} {w:World} {H:AH} (h:HRel g B w H) {m:Nat} {o:Nat → AObj} (ho:∀ i,i < m → OWk (H.o i) (o i)) (hb:∀ i,i < m → OBd m (o i)):HRel g B w ⟨m,m,fun i => if i < m then o i else .hole⟩ :=by
 have nh:∀ i,i < m → o i ≠ .hole → H.o i ≠ .hole :=fun i hi hn e => hn ((ho i hi).hole.1 e)
 constructor
 ·intro i hi
  show (if i < m then o i else .hole) = _
  rw [if_neg (by simp only at hi;omega)]
 ·intro i hi
  simp only at hi ⊢
  by_cases e:i < m
  ·simp only [if_pos e] at *;rw [(ho i e).bk];exact h.ge i (nh i e hi)
  ·simp [e] at hi
 ·intro i j hi hj
  simp only at hi hj ⊢
  by_cases e:i < m
  ·by_cases e2:j < m
   ·simp only [if_pos e,if_pos e2] at *;rw [(ho i e).bk,(ho j e2).bk];exact h.inj i j (nh i e hi) (nh j e2 hj)
   ·simp [e2] at hj
  ·simp [e] at hi
 ·intro i
  simp only
  by_cases e:i < m
  ·simp only [if_pos e];exact (ho i e).rel (h.rel i)
  ·simp only [if_neg e];trivial
 ·intro i
  simp only
  by_cases e:i < m
  ·simp only [if_pos e]
   refine OLive.mono (fun j hj => ?_) (OLive.below ((ho i e).live (h.live i)) (hb i e))
   show (if j < m then o j else .hole) ≠ .hole
   rw [if_pos hj.2];exact fun k => hj.1 ((ho j hj.2).hole.2 k)
  ·simp only [if_neg e];trivial
 ·intro i
  simp only
  by_cases e:i < m
  ·simp only [if_pos e];exact (hb i e).mono (by omega)
  ·simp only [if_neg e];trivial
 ·exact h.imz
 ·exact h.hB
 ·exact h.gl
theorem Out.cutO {g g':Gh} {B:Nat} {w w':World} {H H':AH} (h:Out g B w H g' w' H') {m:Nat} {o:Nat → AObj} (ho:∀ i,i < m → OWk (H'.o i) (o i)) (hb:∀ i,i < m → OBd m (o i)) (hm:∀ i,H.L i → i < m) :
  Out g B w H g' w' ⟨m,m,fun i => if i < m then o i else .hole⟩ :=by
 refine ⟨h.rel.cutO ho hb,h.ext,h.below,fun i hi => ?_,h.frame,fun k hk => ?_⟩
 ·show (if i < m then o i else .hole) ≠ .hole
  rw [if_pos (hm i hi)];exact fun e => h.L i hi ((ho i (hm i hi)).hole.2 e)
 ·obtain ⟨i,hi,e⟩ :=hk
  simp only at hi e
  by_cases hlt:i < m
  ·simp only [if_pos hlt] at hi e
   rw [(ho i hlt).bk] at e
   exact h.own k ⟨i,fun k => hi ((ho i hlt).hole.1 k),e⟩
  ·simp [hlt] at hi
def ObIw (n:Nat) (h h':Tr AObj) (k:Nat):Prop :=
 @Nat.rec (fun _ => Prop) True (fun i ih => (OWk (hv h i) (hv h' i) ∧ BdO n (hv h' i)) ∧ ih) k
theorem ObIw.lt {n:Nat} {h h':Tr AObj}:∀ {k:Nat},ObIw n h h' k → ∀ i,i < k → OWk (hv h i) (hv h' i) ∧ OBd n (hv h' i)
 |k + 1,hk,i,hi => by
  by_cases e:i = k
  ·subst e;exact ⟨hk.1.1,hk.1.2.ok⟩
  ·exact ObIw.lt hk.2 i (by omega)
def ObSm (b:Nat) (W:List Nat) (h h':Tr AObj) (k:Nat):Prop :=
 @Nat.rec (fun _ => Prop) True (fun i ih => @Bool.rec (fun _ => Prop) ih (@Bool.rec (fun _ => Prop) (hv h i = hv h' i ∧ ih) ih (W.contains i)) (Nat.blt i b)) k
theorem ObSm.lt {b:Nat} {W:List Nat} {h h':Tr AObj}:∀ {k:Nat},ObSm b W h h' k → ∀ i,i < k → i < b → i ∉ W → hv h i = hv h' i
 |k + 1,hk,i,hi,hb,hw => by
  have hk:@Bool.rec (fun _ => Prop) (ObSm b W h h' k) (@Bool.rec (fun _ => Prop) (hv h k = hv h' k ∧ ObSm b W h h' k) (ObSm b W h h' k) (W.contains k)) (Nat.blt k b) :=hk
  by_cases e:i = k
  ·subst e
   have e1:Nat.blt i b = true :=by rw [Nat.blt_eq];exact hb
   have e2:W.contains i = false :=by
    cases h:W.contains i with
    |false => rfl
    |true => exact absurd (List.contains_iff_mem.1 h) hw
   rw [e1,e2] at hk
   exact hk.1
  ·have rest:ObSm b W h h' k :=by
    cases e1:Nat.blt k b with
    |false => rw [e1] at hk;exact hk
    |true =>
     rw [e1] at hk
     cases e2:W.contains k with
     |false => rw [e2] at hk;exact hk.2
     |true => rw [e2] at hk;exact hk
   exact ObSm.lt rest i (by omega) hb hw
theorem Out.weak {g g':Gh} {B:Nat} {w w':World} {H H1 H':AH} (h:Out g B w H1 g' w' H') (ho:∀ i,OWk (H.o i) (H1.o i)):Out g B w H g' w' H' :=by
 have hL:H1.L = H.L :=by
  funext i
  unfold AH.L
  rw [ne_eq,ne_eq,(ho i).hole]
 have hO:∀ k,Owned g H k ↔ Owned g H1 k :=fun k => by
  constructor
  ·rintro ⟨i,h1,h2⟩
   exact ⟨i,fun e => h1 ((ho i).hole.2 e),by rw [(ho i).bk];exact h2⟩
  ·rintro ⟨i,h1,h2⟩
   exact ⟨i,fun e => h1 ((ho i).hole.1 e),by rw [← (ho i).bk];exact h2⟩
 exact ⟨h.rel,hL ▸ h.ext,h.below,fun i hi => h.L i (hL ▸ hi),fun k hk hn => h.frame k hk fun e => hn ((hO k).2 e),fun k hk => (h.own k hk).imp (hO k).2 id⟩
theorem FrRel.cutY {g:Gh} {B:Nat} {w:World} {σ τ:St} {fr:Frame} {cs:List Frame} (h:FrRel g B w σ fr cs) {m:Nat} {o:Nat → AObj} (hH:τ.H = ⟨m,m,fun i => if i < m then o i else .hole⟩)
  (ho:∀ i,i < m → OWk (σ.H.o i) (o i)) (hb:∀ i,i < m → OBd m (o i)) (htm:∀ i a,τ.tm.get i = some a → ∃ y,σ.tm.get i = some y ∧ WkV y a ∧ bd a ≤ m)
  {D:List ADf} (hD:Dm m D) (hdf:σ.df = D) (hdf':τ.df = D) (hpm':τ.pm = .no) (hrd:τ.rd = σ.rd):FrRel g B w τ fr cs :=by
 refine ⟨hH ▸ h.h.cutO ho hb,⟨fun t a ht => ?_,fun t a ht => ?_⟩,?_,?_,fun hr => h.rd (hrd ▸ hr)⟩
 ·obtain ⟨y,hy,hw,_⟩ :=htm t a ht
  have :=h.tm.rel t y hy
  exact ⟨this.1,hw.wk _ _ _ this.2⟩
 ·obtain ⟨y,hy,hw,hbd⟩ :=htm t a ht
  rw [hH]
  refine Live.mono (fun i hi => ?_) a (Live.below a (hw.lv _ (h.tm.live t y hy)) hbd)
  show (if i < m then o i else .hole) ≠ .hole
  rw [if_pos hi.2];exact fun e => hi.1 ((ho i hi.2).hole.2 e)
 ·have :=h.df
  rw [hdf] at this
  rw [hdf',hH]
  refine Dm.rel hD (fun i hi hl => ?_) this
  show (if i < m then o i else .hole) ≠ .hole
  rw [if_pos hi];exact fun e => hl ((ho i hi).hole.2 e)
 ·rw [hpm'];trivial
theorem SemT.postY {P:Program} {B:Nat} {its:List Item} {σ σ1 τ:St} {e:AEx} (he:e = .normal ∨ ∃ id,e = .exit id) (h:SemT P B its σ e σ1) {m:Nat} {o:Nat → AObj} (hH:τ.H = ⟨m,m,fun i => if i < m then o i else .hole⟩)
  (ho:∀ i,i < m → OWk (σ1.H.o i) (o i)) (hb:∀ i,i < m → OBd m (o i)) (htm:∀ i a,τ.tm.get i = some a → ∃ y,σ1.tm.get i = some y ∧ WkV y a ∧ bd a ≤ m)
  {D:List ADf} (hD:Dm m D) (hdf:σ1.df = D) (hdf':τ.df = D) (hpm':τ.pm = .no) (hrd:τ.rd = σ1.rd) (hm:∀ i,σ.H.L i → i < m):SemT P B its σ e τ :=by
 intro g fr cs w k hr hmo ht hro k' hk
 obtain ⟨g',fr',cs',w',h1,h2,h3,h4,h5,h6,h7⟩ :=h g fr cs w k hr hmo ht hro k' hk
 refine ⟨g',fr',cs',w',h1.cutY hH ho hb htm hD hdf hdf' hpm' hrd,hH ▸ h2.cutO ho hb hm,h3,h4,(fun _ l e => by rw [hpm'] at e;cases e),?_,h7⟩
 rcases he with rfl | ⟨id,rfl⟩
 ·exact h6
 ·exact h6
def headY (D:List ADf) (tm:Tr AV) (rd:Bool) (h:Tr AObj) (n b:Nat) (W:List Nat) (keep:List Nat) (ut:List (Nat × AV)) (uh:List (Nat × AObj)) (ux:List AObj):AS :=
 ⟨tput (apL (kept tm keep) ut) (unkT tm),D,.no,rd,appT ux n (tput uh h),endN ux n,b,W⟩
structure AtY (D:List ADf) (tm:Tr AV) (rd:Bool) (h:Tr AObj) (n b:Nat) (W:List Nat) (keep:List Nat) (ut:List (Nat × AV)) (uh:List (Nat × AObj)) (ux:List AObj) (s':AS):Prop where
 df:s'.df = D
 pm:s'.pm = .no
 rd:s'.rd = rd
 bq:s'.b = b
 wr:s'.wr = W
 dom:unkT s'.tm = unkT tm
 all:∃ N,N = endN ux n ∧ TmIw N s'.tm (apL (kept tm keep) ut) ∧ ObIw N s'.h (appT ux n (tput uh h)) N ∧ ObSm b W s'.h (appT ux n (tput uh h)) N
section
variable {D:List ADf} {tm:Tr AV} {rd:Bool} {h:Tr AObj} {n b:Nat} {W:List Nat} {s':AS} {keep:List Nat} {ut:List (Nat × AV)} {uh:List (Nat × AObj)} {ux:List AObj}
theorem AtY.tmI (ha:AtY D tm rd h n b W keep ut uh ux s'):TmIw (n + ux.length) s'.tm (apL (kept tm keep) ut) :=by
 obtain ⟨N,e,h1,_⟩ :=ha.all
 rw [endN_eq] at e
 subst e;exact h1
theorem AtY.obI (ha:AtY D tm rd h n b W keep ut uh ux s'):ObIw (n + ux.length) s'.h (appT ux n (tput uh h)) (n + ux.length) ∧ ObSm b W s'.h (appT ux n (tput uh h)) (n + ux.length) :=by
 obtain ⟨N,e,_,h2⟩ :=ha.all
 rw [endN_eq] at e
 subst e;exact h2
theorem headY_end (he:HEnd h n):HEnd (headY D tm rd h n b W keep ut uh ux).h (headY D tm rd h n b W keep ut uh ux).n :=by
 show HEnd _ (endN ux n)
 rw [endN_eq]
 exact appT_end ux n _ (tput_end he)
theorem AtY.tms (ha:AtY D tm rd h n b W keep ut uh ux s'):∀ i a,(headY D tm rd h n b W keep ut uh ux).tm.get i = some a → ∃ y,s'.tm.get i = some y ∧ WkV y a ∧ bd a ≤ n + ux.length :=by
 intro i a hi
 obtain ⟨⟨y,h1⟩,h2⟩ :=tput_get _ _ _ _ hi
 rcases h2 with h2 | ⟨_,h3⟩
 ·obtain ⟨⟨y,k1,k2⟩,k3⟩ :=ha.tmI.mem i a h2
  exact ⟨y,k1,k2,k3⟩
 ·rw [unkT_get] at h3
  have hd:(s'.tm.get i).map (fun _ => AV.unk) = (tm.get i).map fun _ => AV.unk :=by rw [← unkT_get,← unkT_get,ha.dom]
  cases hs:tm.get i with
  |none => rw [hs] at h3;cases h3
  |some z =>
   rw [hs] at h3 hd
   simp only [Option.map_some,Option.some.injEq] at h3
   subst h3
   cases hs':s'.tm.get i with
   |none => rw [hs'] at hd;cases hd
   |some z' => exact ⟨z',rfl,WkV.unk z',Nat.zero_le _⟩
theorem AtY.obj (he:HEnd h n):hv (headY D tm rd h n b W keep ut uh ux).h = fun i => if i < n + ux.length then hv (headY D tm rd h n b W keep ut uh ux).h i else .hole :=by
 funext i
 by_cases e:i < n + ux.length
 ·rw [if_pos e]
 ·rw [if_neg e];exact (headY_end (D :=D) (tm :=tm) (rd :=rd) (b :=b) (W :=W) (keep :=keep) (ut :=ut) (uh :=uh) (ux :=ux) he).hole (by show endN ux n ≤ i;rw [endN_eq];omega)
theorem AtY.wk (ha:AtY D tm rd h n b W keep ut uh ux s'):∀ i,i < n + ux.length → OWk (hv s'.h i) (hv (headY D tm rd h n b W keep ut uh ux).h i) :=fun i hi => (ha.obI.1.lt i hi).1
theorem AtY.bd (ha:AtY D tm rd h n b W keep ut uh ux s'):∀ i,i < n + ux.length → OBd (n + ux.length) (hv (headY D tm rd h n b W keep ut uh ux).h i) :=fun i hi => (ha.obI.1.lt i hi).2
theorem AtY.same (ha:AtY D tm rd h n b W keep ut uh ux s'):∀ x,x < n + ux.length → x < b → x ∉ W → hv (headY D tm rd h n b W keep ut uh ux).h x = hv s'.h x :=fun x hx hb hw => (ha.obI.2.lt x hx hb hw).symm
end
theorem sym_loopY {E:Env} (hE:E.Ok) {S:Sub} (hS:S = symSub E.P) {A:Type} {c:Code} {f:AS → KE → Prop} {tm:Tr AV} {df:List ADf} {pm:APm} {rd:Bool} {h:Tr AObj} {n b:Nat} {W0:List Nat} {K:KE}
  (W:List Nat) (hW:∀ x,x ∈ W0 → x ∈ W) (keep:List Nat) (ut:A → List (Nat × AV)) (uh:A → List (Nat × AObj)) (ux:A → List AObj) (I:A → Prop) (m:A → Nat) (a0:A) (hbn:b ≤ n) (hD:Dm n df) (hu0:ux a0 = [])
  (h0:AtY df tm rd h n b W keep (ut a0) (uh a0) (ux a0) ⟨tm,df,pm,rd,h,n,b,W⟩) (hI:I a0)
  (step:∀ a,I a → ∀ N,N = endN (ux a) n → exC c E S ⟨tput (apL (kept tm keep) (ut a)) (unkT tm),df,.no,rd,appT (ux a) n (tput (uh a) h),N,b,W⟩ fun e s' => @AEx.rec (fun _ => Prop)
   (∃ a',I a' ∧ m a' < m a ∧ (ux a).length ≤ (ux a').length ∧ AtY df tm rd h n b W keep (ut a') (uh a') (ux a') s')
   (fun id => K (.exit id) s' ∨ ∃ (ut':List (Nat × AV)) (uh':List (Nat × AObj)) (ux':List AObj) (N:Nat),N = endN ux' n ∧ (ux a).length ≤ ux'.length ∧ AtY df tm rd h n b W keep ut' uh' ux' s' ∧ K (.exit id) ⟨tput (apL (kept tm keep) ut') (unkT tm),df,.no,rd,appT ux' n (tput uh' h),N,b,W⟩)
   (K .ret s') (fun l => K (.panic l) s') e):S.loop c f ⟨tm,df,pm,rd,h,n,b,W0⟩ K :=by
 subst hS
 intro he
 simp only at he
 have main:∀ (k:Nat) (a:A),I a → m a < k → ∃ e s',K e s' ∧ Aft (headY df tm rd h n b W keep (ut a) (uh a) (ux a)) s' ∧ ∀ (B:Nat) (H:AH),H.o = hv (headY df tm rd h n b W keep (ut a) (uh a) (ux a)).h →
   ∃ H':AH,H'.o = hv s'.h ∧ SemL E.P B c ((headY df tm rd h n b W keep (ut a) (uh a) (ux a)).st H) e (s'.st H') :=by
  intro k
  induction k with
  |zero => intro a _ h;omega
  |succ k ih =>
   intro a hIa hm
   have hea :=headY_end (D :=df) (tm :=tm) (rd :=rd) (b :=b) (W :=W) (keep :=keep) (ut :=ut a) (uh :=uh a) (ux :=ux a) he
   obtain ⟨e,s1,h1,h2,h3⟩ :=exC_ok hE (symSub_ok E.P) c _ _ (step a hIa _ rfl) hea
   have livelt:∀ (H:AH),H.o = hv (headY df tm rd h n b W keep (ut a) (uh a) (ux a)).h → ∀ i,H.L i → i < n + (ux a).length :=fun H hH i hi => by
    apply Nat.lt_of_not_le
    intro hle
    have hi:H.o i ≠ .hole :=hi
    rw [hH] at hi
    exact hi (hea.hole (by show endN (ux a) n ≤ i;rw [endN_eq];exact hle))
   have keptTo:∀ (ut':List (Nat × AV)) (uh':List (Nat × AObj)) (ux':List AObj),AtY df tm rd h n b W keep ut' uh' ux' s1 → Kept b (headY df tm rd h n b W keep (ut a) (uh a) (ux a)).h W (headY df tm rd h n b W keep ut' uh' ux').h W :=by
    intro ut' uh' ux' hah
    have k1:Kept b (headY df tm rd h n b W keep (ut a) (uh a) (ux a)).h W s1.h s1.wr :=h2.kept
    rw [hah.wr] at k1
    exact ⟨fun x hx => hx,fun x hx hn => (hah.same x (by omega) hx hn).trans (k1.same x hx hn)⟩
   have postTo:∀ (ut':List (Nat × AV)) (uh':List (Nat × AObj)) (ux':List AObj),(e = .normal ∨ ∃ id,e = .exit id) → (ux a).length ≤ ux'.length → AtY df tm rd h n b W keep ut' uh' ux' s1 → ∀ (B:Nat) (H:AH),H.o = hv (headY df tm rd h n b W keep (ut a) (uh a) (ux a)).h →
     ∃ H2:AH,H2.o = hv (headY df tm rd h n b W keep ut' uh' ux').h ∧ Sem E.P B c ((headY df tm rd h n b W keep (ut a) (uh a) (ux a)).st H) e ((headY df tm rd h n b W keep ut' uh' ux').st H2) :=by
    intro ut' uh' ux' hee hle hah B H hH
    obtain ⟨H1,k1,k2⟩ :=h3 B H hH
    refine ⟨⟨n + ux'.length,n + ux'.length,fun i => if i < n + ux'.length then hv (headY df tm rd h n b W keep ut' uh' ux').h i else .hole⟩,(AtY.obj he).symm,?_⟩
    refine SemT.postY hee k2 (m :=n + ux'.length) (o :=hv (headY df tm rd h n b W keep ut' uh' ux').h) rfl (fun i hi => by show OWk (H1.o i) _;rw [k1];exact hah.wk i hi) hah.bd hah.tms (hD.mono (Nat.le_add_right _ _)) hah.df rfl rfl hah.rd.symm fun i hi => ?_
    have :=livelt H hH i hi
    omega
   by_cases hn:e = .normal
   ·subst hn
    obtain ⟨a',hIa',hlt,hle,hah⟩ :=h1
    obtain ⟨e2,s2,q1,q2,q3⟩ :=ih a' hIa' (by omega)
    refine ⟨e2,s2,q1,⟨q2.he,q2.b,(keptTo _ _ _ hah).trans q2.kept⟩,fun B H hH => ?_⟩
    obtain ⟨H1,k1,k2⟩ :=postTo _ _ _ (.inl rfl) hle hah B H hH
    obtain ⟨H2,k3,k4⟩ :=q3 B H1 k1
    exact ⟨H2,k3,SemL.next k2 k4⟩
   ·have plain : K e s1 → ∃ e s', K e s' ∧ Aft (headY df tm rd h n b W keep (ut a) (uh a) (ux a)) s' ∧ ∀ (B : Nat) (H : AH), H.o = hv (headY df tm rd h n b W keep (ut a) (uh a) (ux a)).h →
      ∃ H':AH,H'.o = hv s'.h ∧ SemL E.P B c ((headY df tm rd h n b W keep (ut a) (uh a) (ux a)).st H) e (s'.st H') :=fun hk => by
     refine ⟨e,s1,hk,h2,fun B H hH => ?_⟩
     obtain ⟨H1,k1,k2⟩ :=h3 B H hH
     exact ⟨H1,k1,SemL.stop k2 hn⟩
    cases e with
    |normal => exact absurd rfl hn
    |ret => exact plain h1
    |panic l => exact plain h1
    |exit id =>
     rcases h1 with h1 | ⟨ut',uh',ux',N,rfl,hle,hah,hk⟩
     ·exact plain h1
     ·refine ⟨.exit id,_,hk,⟨headY_end he,rfl,keptTo _ _ _ hah⟩,fun B H hH => ?_⟩
      obtain ⟨H1,k1,k2⟩ :=postTo _ _ _ (.inr ⟨id,rfl⟩) hle hah B H hH
      exact ⟨H1,k1,SemL.stop k2 hn⟩
 obtain ⟨e,s',h1,h2,h3⟩ :=main (m a0 + 1) a0 hI (by omega)
 have hl0:n + (ux a0).length = n :=by rw [hu0];rfl
 refine ⟨e,s',h1,⟨h2.he,h2.b,?_⟩,fun B H hH => ?_⟩
 ·have k:Kept b (headY df tm rd h n b W keep (ut a0) (uh a0) (ux a0)).h W s'.h s'.wr :=h2.kept
  exact ⟨fun x hx => k.sub x (hW x hx),fun x hx hn => (k.same x hx hn).trans (h0.same x (by have:x < b :=hx;omega) hx fun e => hn (k.sub x e))⟩
 ·have hob :=AtY.obj (D :=df) (tm :=tm) (rd :=rd) (b :=b) (W :=W) (keep :=keep) (ut :=ut a0) (uh :=uh a0) (ux :=ux a0) he
  obtain ⟨H',k1,k2⟩ :=h3 B ⟨n + (ux a0).length,n + (ux a0).length,fun i => if i < n + (ux a0).length then hv (headY df tm rd h n b W keep (ut a0) (uh a0) (ux a0)).h i else .hole⟩ hob.symm
  refine ⟨H',k1,?_⟩
  intro g fr cs w kk hr hmo ht hro k' hk
  have hr2:FrRel g B w ((headY df tm rd h n b W keep (ut a0) (uh a0) (ux a0)).st ⟨n + (ux a0).length,n + (ux a0).length,fun i => if i < n + (ux a0).length then hv (headY df tm rd h n b W keep (ut a0) (uh a0) (ux a0)).h i else .hole⟩) fr cs :=
   FrRel.cutY hr (m :=n + (ux a0).length) (o :=hv (headY df tm rd h n b W keep (ut a0) (uh a0) (ux a0)).h) rfl (fun i hi => by show OWk (H.o i) _;rw [hH];exact h0.wk i hi) h0.bd h0.tms (hD.mono (Nat.le_add_right _ _)) h0.df rfl rfl h0.rd.symm
  obtain ⟨g',fr',cs',w',q1,q2,q3,q4,q5,q6,q7⟩ :=k2 g fr cs w kk hr2 hmo ht hro k' hk
  have hL:∀ i,H.L i → i < n :=fun i hi => by
   apply Nat.lt_of_not_le
   intro hle
   have hi:H.o i ≠ .hole :=hi
   rw [hH] at hi
   exact hi (he.hole hle)
  refine ⟨g',fr',cs',w',q1,?_,q3,?_,?_,q6,q7⟩
  ·exact q2.weak (fun i => by
    show OWk (H.o i) (if i < n + (ux a0).length then hv (headY df tm rd h n b W keep (ut a0) (uh a0) (ux a0)).h i else .hole)
    by_cases e:i < n + (ux a0).length
    ·rw [if_pos e,hH];exact h0.wk i e
    ·rw [if_neg e,hH,he.hole (by omega)];exact .same _)
  ·have e:APm.no = pm :=h0.pm.symm
   exact e ▸ q4
  ·have e:APm.no = pm :=h0.pm.symm
   exact e ▸ q5
end
end Go.Abs

namespace Go.Abs
open Go
noncomputable section
def TrIw (b:Nat) (W:List Nat) (t:Tr AObj):Nat → Nat → Tr AObj → Prop :=
 @Tr.rec AObj (fun _ => Nat → Nat → Tr AObj → Prop) (fun _ _ t' => @Tr.rec AObj (fun _ => Prop) True (fun _ _ _ _ _ => False) t')
  (fun v _ _ ihl ihr o s t' => @Tr.rec AObj (fun _ => Prop) True
   (fun v' l' r' _ _ => @Bool.rec (fun _ => Prop) (OWk v v') (@Bool.rec (fun _ => Prop) (v = v') (OWk v v') (W.contains o)) (Nat.blt o b) ∧ ihl (Nat.add o s) (Nat.add s s) l' ∧ ihr (Nat.add o (Nat.add s s)) (Nat.add s s) r') t') t
theorem TrIw.refl (b:Nat) (W:List Nat):∀ (t:Tr AObj) (o s:Nat),TrIw b W t o s t
 | .nil,_,_ => trivial
 | .node v l r,o,s => by
  refine ⟨?_,TrIw.refl b W l _ _,TrIw.refl b W r _ _⟩
  cases Nat.blt o b with
  |false => exact .same _
  |true => cases W.contains o with
   |false => rfl
   |true => exact .same _
def atR (b:Nat) (W:List Nat) (o:Nat) (v v':AObj):Prop :=OWk v v' ∧ (o < b → o ∉ W → v = v')
theorem TrIw.get {b:Nat} {W:List Nat}:∀ (j:Nat) (t t':Tr AObj) (o s:Nat),TrIw b W t o s t' → ∀ v',t'.get j = some v' → ∃ v,t.get j = some v ∧ atR b W (o + s * j) v v'
 | _,_,.nil,_,_,_,v',h => by rw [Tr.get_nil] at h;cases h
 | _,.nil,.node _ _ _,_,_,k,_,_ => k.elim
 | 0,.node v l r,.node v' l' r',o,s,k,u,h => by
  cases h
  refine ⟨v,rfl,?_⟩
  have k1 :=k.1
  rw [Nat.mul_zero,Nat.add_zero]
  cases e1:Nat.blt o b with
  |false =>
   rw [e1] at k1
   refine ⟨k1,fun hb _ => ?_⟩
   have:Nat.blt o b = true :=by rw [Nat.blt_eq];exact hb
   rw [this] at e1;cases e1
  |true =>
   rw [e1] at k1
   cases e2:W.contains o with
   |false =>
    rw [e2] at k1
    have k1:v = v' :=k1
    subst k1
    exact ⟨.same _,fun _ _ => rfl⟩
   |true =>
    rw [e2] at k1
    exact ⟨k1,fun _ hn => absurd (List.contains_iff_mem.1 e2) hn⟩
 |j + 1,.node v l r,.node v' l' r',o,s,k,u,h => by
  by_cases hp:j % 2 = 0
  ·have e:(Tr.node v' l' r').get (j + 1) = l'.get (j / 2) :=by unfold Tr.get;rw [Tr.pathOf_odd hp];rfl
   have e':(Tr.node v l r).get (j + 1) = l.get (j / 2) :=by unfold Tr.get;rw [Tr.pathOf_odd hp];rfl
   rw [e] at h
   obtain ⟨w,h1,h2⟩ :=TrIw.get (j / 2) l l' _ _ k.2.1 u h
   refine ⟨w,by rw [e',h1],?_⟩
   have:o + s * (j + 1) = Nat.add o s + Nat.add s s * (j / 2) :=by
    show _ = o + s + (s + s) * (j / 2)
    have hj:j = 2 * (j / 2) :=by omega
    generalize j / 2 = i at *
    subst hj
    rw [Nat.add_mul,Nat.mul_add,Nat.mul_one,Nat.two_mul,Nat.mul_add];omega
   rw [this];exact h2
  ·have e:(Tr.node v' l' r').get (j + 1) = r'.get (j / 2) :=by unfold Tr.get;rw [Tr.pathOf_even hp];rfl
   have e':(Tr.node v l r).get (j + 1) = r.get (j / 2) :=by unfold Tr.get;rw [Tr.pathOf_even hp];rfl
   rw [e] at h
   obtain ⟨w,h1,h2⟩ :=TrIw.get (j / 2) r r' _ _ k.2.2 u h
   refine ⟨w,by rw [e',h1],?_⟩
   have:o + s * (j + 1) = Nat.add o (Nat.add s s) + Nat.add s s * (j / 2) :=by
    show _ = o + (s + s) + (s + s) * (j / 2)
    have hj:j = 2 * (j / 2) + 1 :=by omega
    generalize j / 2 = i at *
    subst hj
    rw [Nat.add_mul,Nat.mul_add,Nat.mul_add,Nat.mul_one,Nat.two_mul,Nat.mul_add];omega
   rw [this];exact h2
termination_by j => j
decreasing_by all_goals omega
def fullB (h:Tr AObj) (k:Nat):Bool :=@Nat.rec (fun _ => Bool) true (fun i ih => @Option.rec AObj (fun _ => Bool) false (fun _ => ih) (h.get i)) k
theorem fullB.lt {h:Tr AObj}:∀ {k:Nat},fullB h k = true → ∀ i,i < k → ∃ x,h.get i = some x
 |k + 1,hk,i,hi => by
  have hk:@Option.rec AObj (fun _ => Bool) false (fun _ => fullB h k) (h.get k) = true :=hk
  cases e:h.get k with
  |none => rw [e] at hk;cases hk
  |some x =>
   rw [e] at hk
   by_cases e2:i = k
   ·subst e2;exact ⟨x,e⟩
   ·exact fullB.lt hk i (by omega)
def TrBd (n:Nat) (t:Tr AObj):Prop :=@Tr.rec AObj (fun _ => Prop) True (fun v _ _ l r => BdO n v ∧ l ∧ r) t
theorem TrBd.get {n:Nat}:∀ (p:Pa) (t:Tr AObj),TrBd n t → ∀ a,Tr.getP p t = some a → BdO n a
 | .e,.nil,_,a,h => by cases h
 | .e,.node v _ _,hb,a,h => by cases h;exact hb.1
 | .l _,.nil,_,a,h => by cases h
 | .l p,.node _ l _,hb,a,h => TrBd.get p l hb.2.1 a h
 | .r _,.nil,_,a,h => by cases h
 | .r p,.node _ _ r,hb,a,h => TrBd.get p r hb.2.2 a h
theorem BdT.mono {n m:Nat} (h:n ≤ m):∀ {t:Tr AV},BdT n t → BdT m t
 | .nil,_ => trivial
 | .node _ _ _,k => ⟨Nat.le_trans k.1 h,BdT.mono h k.2.1,BdT.mono h k.2.2⟩
theorem BdE.mono {n m:Nat} (h:n ≤ m):∀ {es:List (AV × AV)},BdE n es → BdE m es
 | [],_ => trivial
 |(_,_) :: _,k => ⟨Nat.le_trans k.1 h,Nat.le_trans k.2.1 h,BdE.mono h k.2.2⟩
theorem BdO.mono {n m:Nat} (h:n ≤ m) {x:AObj} (k:BdO n x):BdO m x :=by
 cases x with
 |cells t _ _ => exact BdT.mono h k
 |mapo es => exact BdE.mono h k
 |mrow => exact Nat.le_trans k h
 |miter => exact Nat.lt_of_lt_of_le k h
 |loop => exact ⟨BdT.mono h k.1,Nat.lt_of_lt_of_le k.2 h⟩
 | _ => trivial
def BdL (n:Nat) (l:List (Nat × AObj)):Prop :=@List.rec (Nat × AObj) (fun _ => Prop) True (fun p _ ih => @Prod.rec Nat AObj (fun _ => Prop) (fun _ x => BdO n x ∧ ih) p) l
def BdX (n:Nat) (l:List AObj):Prop :=@List.rec AObj (fun _ => Prop) True (fun x _ ih => BdO n x ∧ ih) l
theorem BdL.mem {n:Nat}:∀ {l:List (Nat × AObj)},BdL n l → ∀ i x,(i,x) ∈ l → BdO n x
 |(j,y) :: l,h,i,x,hm => by
  rcases List.mem_cons.1 hm with e | hm
  ·cases e;exact h.1
  ·exact BdL.mem h.2 i x hm
theorem BdX.mem {n:Nat}:∀ {l:List AObj},BdX n l → ∀ x,x ∈ l → BdO n x
 |y :: l,h,x,hm => by
  rcases List.mem_cons.1 hm with e | hm
  ·cases e;exact h.1
  ·exact BdX.mem h.2 x hm
theorem tadd_at {α:Type} {x:α}:∀ (p:Pa) (t:Tr α) (a:α),Tr.getP p (tadd p t x) = some a → Tr.getP p t = some a ∨ a = x
 | .e,.nil,a,h => by cases h;exact .inr rfl
 | .e,.node _ _ _,a,h => by cases h;exact .inr rfl
 | .l _,.nil,a,h => by rw [show tadd (.l _) (.nil:Tr α) x = .nil from rfl,getP_nil] at h;cases h
 | .r _,.nil,a,h => by rw [show tadd (.r _) (.nil:Tr α) x = .nil from rfl,getP_nil] at h;cases h
 | .l p,.node _ l _,a,h => tadd_at p l a h
 | .r p,.node _ _ r,a,h => tadd_at p r a h
theorem appT_mem:∀ (xs:List AObj) (n:Nat) (h:Tr AObj) (i:Nat) (a:AObj),(appT xs n h).get i = some a → h.get i = some a ∨ a ∈ xs
 | [],_,_,_,_,h => .inl h
 |x :: xs,n,h,i,a,hg => by
  rcases appT_mem xs (n + 1) (tadd (pathOf n) h x) i a hg with k | k
  ·by_cases e:i = n
   ·subst e
    rcases tadd_at (pathOf i) h a k with k | k
    ·exact .inl k
    ·subst k;exact .inr (List.mem_cons_self ..)
   ·unfold Tr.get at k
    rw [tadd_ne _ _ _ fun e2 => e (pathOf_inj _ _ e2).symm] at k
    exact .inl k
  ·exact .inr (List.mem_cons_of_mem _ k)
structure AtZ (D:List ADf) (tm:Tr AV) (rd:Bool) (h:Tr AObj) (n b:Nat) (W:List Nat) (keep:List Nat) (ut:List (Nat × AV)) (uh:List (Nat × AObj)) (ux:List AObj) (s':AS):Prop where
 df:s'.df = D
 pm:s'.pm = .no
 rd:s'.rd = rd
 bq:s'.b = b
 wr:s'.wr = W
 dom:unkT s'.tm = unkT tm
 all:∃ N,N = endN ux n ∧ TmIw N s'.tm (apL (kept tm keep) ut) ∧ TrIw b W s'.h 0 1 (appT ux n (tput uh h)) ∧ BdL N uh ∧ BdX N ux ∧ fullB (appT ux n (tput uh h)) N = true
end
end Go.Abs
/-! Loops whose heads have lists of their own that may be begun anew: at each head such lists have the same numbers. -/
namespace Go.Abs
open Go
noncomputable section
def rnG (g:Gh) (n:Nat) (rs:List Nat):Gh :=
 { g with cn :=fun i => if i < n then g.cn i else g.cn (rs.getD (i - n) 0),cb :=fun i => if i < n then g.cb i else g.cb (rs.getD (i - n) 0),cc :=fun i => if i < n then g.cc i else g.cc (rs.getD (i - n) 0) }
theorem rnG_ext (g:Gh) (n:Nat) (rs:List Nat) (w:World):Ext (fun i => i < n) g w (rnG g n rs) w :=
 ⟨fun _ _ => rfl,fun i hi => by show _ ≤ (if i < n then _ else _);rw [if_pos hi];exact Nat.le_refl _,fun i hi _ => ⟨if_pos hi,if_pos hi⟩,fun _ => Nat.le_refl _,fun _ _ _ => rfl⟩
def isChain:AObj → Prop
 | .chain _ _ _ => True
 | _ => False
theorem isChain.bk {x:AObj} (h:isChain x) (g:Gh) (i:Nat):g.bk x i = g.cb i :=by cases x <;> first | rfl | exact h.elim
theorem isChain.ne {x:AObj} (h:isChain x):x ≠ .hole :=fun e => by subst e;exact h
theorem isChain.bd {x:AObj} (h:isChain x) (n:Nat):OBd n x :=by cases x <;> first | trivial | exact h.elim
theorem isChain.lv {x:AObj} (h:isChain x) (L:Nat → Prop):OLive L x :=by cases x <;> first | trivial | exact h.elim
inductive RnV (n:Nat) (rs:List Nat):AV → AV → Prop
 |wk {y a:AV} (h:WkV y a) (b:bd a ≤ n):RnV n rs y a
 |ch {xs:List AV} {k j c d:Nat} (hj:j < rs.length) (e:rs.getD j 0 = c) (e2:d = n + j) (b:bdl xs ≤ n):RnV n rs (.lst xs k (.ch c)) (.lst xs k (.ch d))
 |tr {y z a:AV} (h:WkV y z) (k:RnV n rs z a):RnV n rs y a
def zo (n:Nat) (ux:List AObj) (o:Nat → AObj) (i:Nat):AObj :=if i < n then o i else ux.getD (i - n) .hole
structure ZnR (n:Nat) (rs:List Nat) (ux:List AObj) (o:Nat → AObj):Prop where
 len:rs.length = ux.length
 nd:rs.Nodup
 ge:∀ j,j < rs.length → n ≤ rs.getD j 0
 ob:∀ j,j < rs.length → o (rs.getD j 0) = ux.getD j .hole
 ch:∀ j,j < rs.length → isChain (ux.getD j .hole)
section
variable {n:Nat} {rs:List Nat} {ux:List AObj} {g:Gh} {B:Nat} {w:World} {H:AH} {o:Nat → AObj}
theorem HRel.rn (h:HRel g B w H) (ho:∀ i,i < n → OWk (H.o i) (o i)) (hb:∀ i,i < n → OBd n (o i)) (hz:ZnR n rs ux H.o):HRel (rnG g n rs) B w ⟨n + ux.length,n + ux.length,zo n ux o⟩ :=by
 have nh:∀ i,i < n → o i ≠ .hole → H.o i ≠ .hole :=fun i hi hn e => hn ((ho i hi).hole.1 e)
 have out:∀ i,¬ i < n → ¬ i - n < rs.length → ux.getD (i - n) .hole = .hole :=fun i _ hi => by
  rw [List.getD_eq_getElem?_getD,List.getElem?_eq_none (by rw [← hz.len];omega)];rfl
 have bk1:∀ (x:AObj) i,i < n → (rnG g n rs).bk x i = g.bk x i :=fun x i hi => by cases x <;> first | rfl | exact if_pos hi
 have bk2:∀ i,¬ i < n → i - n < rs.length → (rnG g n rs).bk (ux.getD (i - n) .hole) i = g.bk (H.o (rs.getD (i - n) 0)) (rs.getD (i - n) 0) :=fun i hi hl => by
  rw [(hz.ch _ hl).bk,hz.ob _ hl,(hz.ch _ hl).bk];exact if_neg hi
 have inz:∀ i,¬ i < n → i - n < rs.length → H.o (rs.getD (i - n) 0) ≠ .hole :=fun i _ hl => by rw [hz.ob _ hl];exact (hz.ch _ hl).ne
 have zinj:∀ i j,i < rs.length → j < rs.length → rs.getD i 0 = rs.getD j 0 → i = j :=fun i j hi hj e => by
  rw [List.getD_eq_getElem?_getD,List.getD_eq_getElem?_getD,List.getElem?_eq_getElem hi,List.getElem?_eq_getElem hj] at e
  simp only [Option.getD_some] at e
  have hp :=List.pairwise_iff_getElem.1 hz.nd
  rcases Nat.lt_trichotomy i j with k | k | k
  ·exact absurd e (hp i j hi hj k)
  ·exact k
  ·exact absurd e.symm (hp j i hj hi k)
 constructor
 ·intro i hi
  simp only at hi
  show zo n ux o i = _
  unfold zo
  rw [if_neg (by omega)]
  exact out i (by omega) (by rw [hz.len];omega)
 ·intro i hi
  simp only at hi ⊢
  unfold zo at hi ⊢
  by_cases e:i < n
  ·rw [if_pos e] at hi ⊢;rw [bk1 _ _ e,(ho i e).bk];exact h.ge i (nh i e hi)
  ·rw [if_neg e] at hi ⊢
   by_cases l:i - n < rs.length
   ·rw [bk2 i e l];exact h.ge _ (inz i e l)
   ·exact absurd (out i e l) hi
 ·intro i j hi hj
  simp only at hi hj ⊢
  unfold zo at hi hj ⊢
  by_cases e:i < n
  ·by_cases e2:j < n
   ·rw [if_pos e] at hi ⊢;rw [if_pos e2] at hj ⊢
    rw [bk1 _ _ e,bk1 _ _ e2,(ho i e).bk,(ho j e2).bk];exact h.inj i j (nh i e hi) (nh j e2 hj)
   ·rw [if_pos e] at hi ⊢;rw [if_neg e2] at hj ⊢
    by_cases l:j - n < rs.length
    ·rw [bk1 _ _ e,bk2 j e2 l,(ho i e).bk]
     intro k
     have :=h.inj i _ (nh i e hi) (inz j e2 l) k
     have :=hz.ge _ l
     omega
    ·exact absurd (out j e2 l) hj
  ·by_cases l:i - n < rs.length
   ·by_cases e2:j < n
    ·rw [if_neg e] at hi ⊢;rw [if_pos e2] at hj ⊢
     rw [bk2 i e l,bk1 _ _ e2,(ho j e2).bk]
     intro k
     have :=h.inj _ j (inz i e l) (nh j e2 hj) k
     have :=hz.ge _ l
     omega
    ·rw [if_neg e] at hi ⊢;rw [if_neg e2] at hj ⊢
     by_cases l2:j - n < rs.length
     ·rw [bk2 i e l,bk2 j e2 l2]
      intro k
      have :=zinj _ _ l l2 (h.inj _ _ (inz i e l) (inz j e2 l2) k)
      omega
     ·exact absurd (out j e2 l2) hj
   ·rw [if_neg e] at hi;exact absurd (out i e l) hi
 ·intro i
  simp only
  unfold zo
  by_cases e:i < n
  ·rw [if_pos e]
   by_cases hh:o i = .hole
   ·rw [hh];trivial
   ·have h1 :=(ho i e).rel (h.rel i)
    refine h1.ext (rnG_ext g n rs w) (OLive.mono (fun _ k => k.2) (OLive.below ((ho i e).live (h.live i)) (hb i e))) e rfl rfl (if_pos e)
  ·rw [if_neg e]
   by_cases l:i - n < rs.length
   ·have h1 :=h.rel (rs.getD (i - n) 0)
    rw [hz.ob _ l] at h1
    have h2 :=hz.ch _ l
    revert h1 h2
    cases ux.getD (i - n) .hole <;> intro h1 h2 <;> first | exact h2.elim | skip
    obtain ⟨arr,k1,k2,k3,k4,k5⟩ :=h1
    have e1:(rnG g n rs).cb i = g.cb (rs.getD (i - n) 0) :=if_neg e
    have e2:(rnG g n rs).cc i = g.cc (rs.getD (i - n) 0) :=if_neg e
    have e3:(rnG g n rs).cn i = g.cn (rs.getD (i - n) 0) :=if_neg e
    refine ⟨arr,by rw [e1];exact k1,by rw [e1];exact k2,by rw [e2];exact k3,by rw [e2];exact k4,by rw [e3];exact k5⟩
   ·rw [out i e l];trivial
 ·intro i
  simp only
  unfold zo
  by_cases e:i < n
  ·rw [if_pos e]
   refine OLive.mono (fun j hj => ?_) (OLive.below ((ho i e).live (h.live i)) (hb i e))
   show (if j < n then o j else _) ≠ .hole
   rw [if_pos hj.2];exact fun k => hj.1 ((ho j hj.2).hole.2 k)
  ·rw [if_neg e]
   by_cases l:i - n < rs.length
   ·exact (hz.ch _ l).lv _
   ·rw [out i e l];trivial
 ·intro i
  simp only
  unfold zo
  by_cases e:i < n
  ·rw [if_pos e];exact (hb i e).mono (by omega)
  ·rw [if_neg e]
   by_cases l:i - n < rs.length
   ·exact (hz.ch _ l).bd _
   ·rw [out i e l];trivial
 ·exact h.imz
 ·exact h.hB
 ·exact h.gl
theorem Out.rn {g0:Gh} {w0:World} {H0:AH} (h:Out g0 B w0 H0 g w H) (ho:∀ i,i < n → OWk (H.o i) (o i)) (hb:∀ i,i < n → OBd n (o i)) (hz:ZnR n rs ux H.o) (hL:∀ i,H0.L i → i < n):Out g0 B w0 H0 (rnG g n rs) w ⟨n + ux.length,n + ux.length,zo n ux o⟩ :=by
 refine ⟨h.rel.rn ho hb hz,h.ext.trans ((rnG_ext g n rs w).mono hL),h.below,fun i hi => ?_,h.frame,fun k hk => ?_⟩
 ·show zo n ux o i ≠ .hole
  unfold zo
  rw [if_pos (hL i hi)]
  exact fun e => h.L i hi ((ho i (hL i hi)).hole.2 e)
 ·obtain ⟨i,hi,e⟩ :=hk
  simp only at hi e
  unfold zo at hi e
  by_cases hlt:i < n
  ·rw [if_pos hlt] at hi e
   have e3:(rnG g n rs).bk (o i) i = g.bk (o i) i :=by cases o i <;> first | rfl | exact if_pos hlt
   rw [e3,(ho i hlt).bk] at e
   exact h.own k ⟨i,fun k => hi ((ho i hlt).hole.1 k),e⟩
  ·rw [if_neg hlt] at hi e
   by_cases l:i - n < rs.length
   ·have e3:(rnG g n rs).bk (ux.getD (i - n) .hole) i = g.bk (H.o (rs.getD (i - n) 0)) (rs.getD (i - n) 0) :=by
     rw [(hz.ch _ l).bk,hz.ob _ l,(hz.ch _ l).bk];exact if_neg hlt
    exact h.own k ⟨_,by rw [hz.ob _ l];exact (hz.ch _ l).ne,by rw [← e3];exact e⟩
   ·exact absurd (by rw [List.getD_eq_getElem?_getD,List.getElem?_eq_none (by rw [← hz.len];omega)];rfl) hi
theorem RnV.rel {L:Nat → Prop} {y a:AV} {u:Value} (k:RnV n rs y a) (hl:Live L y) (hv:VRel g w y u):VRel (rnG g n rs) w a u :=by
 induction k with
 |tr h _ ih => exact ih (h.lv _ hl) (h.wk _ _ _ hv)
 |wk h b => exact VRel.ext (rnG_ext g n rs w) _ u (Live.mono (fun _ k => k.2) _ (Live.below _ (h.lv _ hl) b)) (h.wk _ _ _ hv)
 | @ch xs k j c d hj e e2 b =>
  subst e e2
  simp only [VRel] at hv ⊢
  obtain ⟨bb,off,cap,h1,h2,h3,h4,h5⟩ :=hv
  have hx :=VRel.ext (rnG_ext g n rs w) (.lst xs k .no) u (Live.mono (fun _ k => k.2) _ (Live.below (.lst xs k .no) (L :=L) ⟨hl.1,fun _ e => nomatch e⟩ b)) (by simp only [VRel];exact ⟨bb,off,cap,h1,h2,h3,h4,trivial⟩)
  simp only [VRel] at hx
  obtain ⟨bb',off',cap',k1,k2,k3,k4,_⟩ :=hx
  rw [h1] at k1
  cases k1
  refine ⟨bb,off,cap,h1,h2,h3,k4,?_⟩
  have e1:(rnG g n rs).cb (n + j) = g.cb (rs.getD j 0) :=by show (if n + j < n then _ else _) = _;rw [if_neg (by omega),Nat.add_sub_cancel_left]
  have e2:(rnG g n rs).cc (n + j) = g.cc (rs.getD j 0) :=by show (if n + j < n then _ else _) = _;rw [if_neg (by omega),Nat.add_sub_cancel_left]
  have e3:(rnG g n rs).cn (n + j) = g.cn (rs.getD j 0) :=by show (if n + j < n then _ else _) = _;rw [if_neg (by omega),Nat.add_sub_cancel_left]
  show k ≤ (rnG g n rs).cn (n + j) ∧ (k = (rnG g n rs).cn (n + j) → bb = (rnG g n rs).cb (n + j) ∧ off = 0 ∧ cap = (rnG g n rs).cc (n + j))
  rw [e1,e2,e3]
  exact h5
end
/-! ### The head -/
def TmR (n:Nat) (rs:List Nat) (tm:Tr AV) (l:List (Nat × AV)):Prop :=
 @List.rec (Nat × AV) (fun _ => Prop) True (fun p _ ih => @Prod.rec Nat AV (fun _ => Prop) (fun i x => (∃ y,tm.get i = some y ∧ RnV n rs y x) ∧ ih) p) l
theorem TmR.mem {n:Nat} {rs:List Nat} {tm:Tr AV}:∀ {l:List (Nat × AV)},TmR n rs tm l → ∀ j a,(j,a) ∈ l → ∃ y,tm.get j = some y ∧ RnV n rs y a
 |(i,x) :: l,h,j,a,hm => by
  rcases List.mem_cons.1 hm with e | hm
  ·cases e;exact h.1
  ·exact TmR.mem h.2 j a hm
def ZnL (n:Nat) (o:Tr AObj) (rs:List Nat):List AObj → Prop :=
 @List.rec Nat (fun _ => List AObj → Prop) (fun ux => @List.rec AObj (fun _ => Prop) True (fun _ _ _ => False) ux)
  (fun c _ ih ux => @List.rec AObj (fun _ => Prop) False (fun x r _ => (n ≤ c ∧ hv o c = x ∧ isChain x) ∧ ih r) ux) rs
theorem ZnL.get {n:Nat} {o:Tr AObj}:∀ {rs:List Nat} {ux:List AObj},ZnL n o rs ux → rs.length = ux.length ∧ ∀ j,j < rs.length → n ≤ rs.getD j 0 ∧ hv o (rs.getD j 0) = ux.getD j .hole ∧ isChain (ux.getD j .hole)
 | [],[],_ => ⟨rfl,fun j h => absurd h (Nat.not_lt_zero _)⟩
 | [],_ :: _,h => h.elim
 | _ :: _,[],h => h.elim
 |c :: rs,x :: ux,h => by
  obtain ⟨h1,h2⟩ :=ZnL.get h.2
  refine ⟨by rw [List.length_cons,List.length_cons,h1],fun j hj => ?_⟩
  cases j with
  |zero => exact h.1
  |succ j =>
   rw [List.length_cons] at hj
   exact h2 j (by omega)
def ZxL (t:Tr AObj) (n:Nat) (ux:List AObj):Prop :=@List.rec AObj (fun _ => Nat → Prop) (fun _ => True) (fun x _ ih n => t.get n = some x ∧ ih (Nat.succ n)) ux n
theorem ZxL.get {t:Tr AObj}:∀ {ux:List AObj} {n:Nat},ZxL t n ux → ∀ j,j < ux.length → t.get (n + j) = some (ux.getD j .hole)
 |x :: ux,n,h,j,hj => by
  cases j with
  |zero => exact h.1
  |succ j =>
   rw [List.length_cons] at hj
   have :=ZxL.get h.2 j (by omega)
   rw [show n + (j + 1) = Nat.succ n + j by show _ = n + 1 + j;omega]
   exact this
theorem Dm.relG {g:Gh} {w:World} {L L':Nat → Prop} {m n:Nat} {rs:List Nat}:∀ {D:List ADf} {ds:List Deferred},Dm m D → (∀ i,i < m → L i → L' i) → DfRel g w L D ds → DfRel (rnG g n rs) w L' D ds
 | [],_,_,_,h => h
 | .call _ _ :: _,_,h,_,_ => h.elim
 | .mark o :: l,ds,h,hl,hr => by
  obtain ⟨ds',e1,h1,h2⟩ :=hr
  exact ⟨ds',e1,hl o h.1 h1,Dm.relG h.2 hl h2⟩
structure AtR (D:List ADf) (tm:Tr AV) (rd:Bool) (h:Tr AObj) (n b:Nat) (W:List Nat) (keep:List Nat) (ut:List (Nat × AV)) (uh:List (Nat × AObj)) (ux:List AObj) (rs:List Nat) (s':AS):Prop where
 df:s'.df = D
 pm:s'.pm = .no
 rd:s'.rd = rd
 bq:s'.b = b
 wr:s'.wr = W
 dom:unkT s'.tm = unkT tm
 nd:rs.Nodup
 tmr:TmR n rs s'.tm (apL (kept tm keep) ut)
 ob:TrIw b W s'.h 0 1 (tput uh h)
 bd:BdL n uh
 full:fullB (tput uh h) n = true
 zn:ZnL n s'.h rs ux
 zx:ZxL (appT ux n (tput uh h)) n ux
section
variable {D:List ADf} {tm:Tr AV} {rd:Bool} {h:Tr AObj} {n b:Nat} {W:List Nat} {s':AS} {keep:List Nat} {ut:List (Nat × AV)} {uh:List (Nat × AObj)} {ux:List AObj} {rs:List Nat}
theorem AtR.znr (ha:AtR D tm rd h n b W keep ut uh ux rs s'):ZnR n rs ux (hv s'.h) :=
 ⟨ha.zn.get.1,ha.nd,fun j hj => (ha.zn.get.2 j hj).1,fun j hj => (ha.zn.get.2 j hj).2.1,fun j hj => (ha.zn.get.2 j hj).2.2⟩
theorem AtR.old (hB:TrBd n h) (ha:AtR D tm rd h n b W keep ut uh ux rs s'):∀ i,i < n → ∃ x,(tput uh h).get i = some x ∧ (∃ y,s'.h.get i = some y ∧ atR b W i y x) ∧ BdO n x :=fun i hi => by
 obtain ⟨x,hx⟩ :=fullB.lt ha.full i hi
 refine ⟨x,hx,?_,?_⟩
 ·obtain ⟨y,k1,k2⟩ :=TrIw.get i _ _ 0 1 ha.ob x hx
  rw [Nat.zero_add,Nat.one_mul] at k2
  exact ⟨y,k1,k2⟩
 ·rcases (tput_get _ _ _ _ hx).2 with k | ⟨_,k⟩
  ·exact ha.bd.mem i x k
  ·exact TrBd.get (pathOf i) h hB x k
theorem appT_old:∀ (xs:List AObj) (n:Nat) (h:Tr AObj) (i:Nat),i < n → (appT xs n h).get i = h.get i
 | [],_,_,_,_ => rfl
 |x :: xs,n,h,i,hi => by
  have :=appT_old xs (n + 1) (tadd (pathOf n) h x) i (by omega)
  refine this.trans ?_
  unfold Tr.get
  rw [tadd_ne _ _ _ fun e => by have :=pathOf_inj _ _ e;omega]
theorem headR_hv (_he:HEnd h n) (hx:∀ j,j < ux.length → (appT ux n (tput uh h)).get (n + j) = some (ux.getD j .hole)):hv (headY D tm rd h n b W keep ut uh ux).h = zo n ux (hv (tput uh h)) :=by
 funext i
 show hv (appT ux n (tput uh h)) i = _
 unfold zo
 by_cases hi:i < n
 ·rw [if_pos hi]
  unfold hv
  rw [appT_old ux n _ i hi]
 ·rw [if_neg hi]
  by_cases hj:i - n < ux.length
  ·have :=hx (i - n) hj
   rw [show n + (i - n) = i by omega] at this
   unfold hv
   rw [this]
  ·have he2 :=headY_end (D :=D) (tm :=tm) (rd :=rd) (b :=b) (W :=W) (keep :=keep) (ut :=ut) (uh :=uh) (ux :=ux) _he
   have :=he2.hole (i :=i) (by show endN ux n ≤ i;rw [endN_eq];omega)
   rw [List.getD_eq_getElem?_getD,List.getElem?_eq_none (by omega)]
   exact this
theorem AtR.tms (ha:AtR D tm rd h n b W keep ut uh ux rs s'):∀ i a,(headY D tm rd h n b W keep ut uh ux).tm.get i = some a → ∃ y,s'.tm.get i = some y ∧ RnV n rs y a :=by
 intro i a hi
 obtain ⟨⟨y,h1⟩,h2⟩ :=tput_get _ _ _ _ hi
 rcases h2 with h2 | ⟨_,h3⟩
 ·exact ha.tmr.mem i a h2
 ·rw [unkT_get] at h3
  have hd:(s'.tm.get i).map (fun _ => AV.unk) = (tm.get i).map fun _ => AV.unk :=by rw [← unkT_get,← unkT_get,ha.dom]
  cases hs:tm.get i with
  |none => rw [hs] at h3;cases h3
  |some z =>
   rw [hs] at h3 hd
   simp only [Option.map_some,Option.some.injEq] at h3
   subst h3
   cases hs':s'.tm.get i with
   |none => rw [hs'] at hd;cases hd
   |some z' => exact ⟨z',rfl,.wk (WkV.unk z') (Nat.zero_le _)⟩
theorem AtR.adapt (hB:TrBd n h) (hD:Dm n D) (ha:AtR D tm rd h n b W keep ut uh ux rs s') {g g0:Gh} {B:Nat} {w w0:World} {H H0:AH} {fr:Frame} {cs:List Frame} (hH:H.o = hv s'.h) (hL:∀ i,H0.L i → i < n)
  (hr:FrRel g B w (s'.st H) fr cs) (ho:Out g0 B w0 H0 g w H) :
  FrRel (rnG g n rs) B w ((headY D tm rd h n b W keep ut uh ux).st ⟨n + ux.length,n + ux.length,zo n ux (hv (tput uh h))⟩) fr cs ∧ Out g0 B w0 H0 (rnG g n rs) w ⟨n + ux.length,n + ux.length,zo n ux (hv (tput uh h))⟩ :=by
 have hold :=ha.old hB
 have hok:∀ i,i < n → OWk (H.o i) (hv (tput uh h) i) ∧ OBd n (hv (tput uh h) i) :=fun i hi => by
  obtain ⟨x,k1,⟨y,k2,k3⟩,k4⟩ :=hold i hi
  rw [hH]
  unfold hv
  rw [k1,k2]
  exact ⟨k3.1,k4.ok⟩
 have hz:ZnR n rs ux H.o :=by rw [hH];exact ha.znr
 have hrel :=hr.h.rn (fun i hi => (hok i hi).1) (fun i hi => (hok i hi).2) hz
 refine ⟨⟨hrel,⟨fun t a ht => ?_,fun t a ht => ?_⟩,?_,trivial,fun e => hr.rd (by show s'.rd = false;rw [ha.rd];exact e)⟩,ho.rn (fun i hi => (hok i hi).1) (fun i hi => (hok i hi).2) hz hL⟩
 ·obtain ⟨y,k1,k2⟩ :=ha.tms t a ht
  have :=hr.tm.rel t y k1
  exact ⟨this.1,k2.rel (hr.tm.live t y k1) this.2⟩
 ·obtain ⟨y,k1,k2⟩ :=ha.tms t a ht
  have hl :=hr.tm.live t y k1
  have lold:∀ i,H.L i ∧ i < n → zo n ux (hv (tput uh h)) i ≠ .hole :=fun i hi => by
   unfold zo
   rw [if_pos hi.2]
   exact fun e => hi.1 (((hok i hi.2).1).hole.2 e)
  clear k1 ht
  induction k2 with
  |tr h _ ih => exact ih (h.lv _ hl)
  |wk hw hb => exact Live.mono lold _ (Live.below _ (hw.lv _ hl) hb)
  | @ch xs k j c d hj e e2 b =>
   subst e e2
   refine ⟨Lives.mono lold xs (Lives.below xs hl.1 b),fun c e => ?_⟩
   cases e
   show zo n ux _ (n + j) ≠ .hole
   unfold zo
   rw [if_neg (by omega),Nat.add_sub_cancel_left]
   exact (hz.ch j hj).ne
 ·have hdf :=hr.df
  have e:(s'.st H).df = D :=ha.df
  rw [e] at hdf
  exact Dm.relG hD (fun i hi hl => by
   show zo n ux _ i ≠ .hole
   unfold zo
   rw [if_pos hi]
   exact fun e => hl (((hok i hi).1).hole.2 e)) hdf
theorem sym_loopR {E:Env} (hE:E.Ok) {S:Sub} (hS:S = symSub E.P) {A:Type} {c:Code} {f:AS → KE → Prop} {tm:Tr AV} {df:List ADf} {pm:APm} {rd:Bool} {h:Tr AObj} {n b:Nat} {W0:List Nat} {K:KE}
  (W:List Nat) (hW:∀ x,x ∈ W0 → x ∈ W) (keep:List Nat) (ut:A → List (Nat × AV)) (uh:A → List (Nat × AObj)) (ux:A → List AObj) (I:A → Prop) (m:A → Nat) (a0:A) (hbn:b ≤ n) (hD:Dm n df) (hu0:ux a0 = []) (hB:TrBd n h)
  (h0:AtR df tm rd h n b W keep (ut a0) (uh a0) (ux a0) [] ⟨tm,df,pm,rd,h,n,b,W⟩) (hI:I a0)
  (step:∀ a,I a → ∀ N,N = endN (ux a) n → exC c E S ⟨tput (apL (kept tm keep) (ut a)) (unkT tm),df,.no,rd,appT (ux a) n (tput (uh a) h),N,b,W⟩ fun e s' => @AEx.rec (fun _ => Prop)
   (∃ a' rs,I a' ∧ m a' < m a ∧ AtR df tm rd h n b W keep (ut a') (uh a') (ux a') rs s')
   (fun id => K (.exit id) s') (K .ret s') (fun l => K (.panic l) s') e):S.loop c f ⟨tm,df,pm,rd,h,n,b,W0⟩ K :=by
 subst hS
 intro he
 simp only at he
 -- the state at the head, with a heap
 let hd:A → St :=fun a => (headY df tm rd h n b W keep (ut a) (uh a) (ux a)).st ⟨n + (ux a).length,n + (ux a).length,zo n (ux a) (hv (tput (uh a) h))⟩
 let its:List Item :=[.code c,.inLoop c]
 let Pre:Nat → AH → A → Prop :=fun B H a => ∀ g0 fr0 cs0 w0 k,FrRel g0 B w0 ((⟨tm,df,pm,rd,h,n,b,W0⟩ : AS).st H) fr0 cs0 → fr0.mode = .run → fr0.todo = its ++ k →
  ∃ g fr cs w,FrRel g B w (hd a) fr cs ∧ Out g0 B w0 H g w (hd a).H ∧ SameFr fr0 fr ∧ CsOk pm cs0 cs ∧ fr.mode = .run ∧ fr.todo = its ++ k ∧ Steps E.P (lone fr0 cs0 w0) (lone fr cs w)
 have hpm:pm = .no :=h0.pm
 have main:∀ (k:Nat) (a:A),I a → m a < k → (∀ j,j < (ux a).length → (appT (ux a) n (tput (uh a) h)).get (n + j) = some ((ux a).getD j .hole)) → (∀ B H,H.o = hv h → Pre B H a) → (∀ x,x < b → x ∉ W → hv (tput (uh a) h) x = hv h x) →
   ∃ e s',K e s' ∧ Aft ⟨tm,df,pm,rd,h,n,b,W0⟩ s' ∧ ∀ (B:Nat) (H:AH),H.o = hv h → ∃ H':AH,H'.o = hv s'.h ∧ SemL E.P B c ((⟨tm,df,pm,rd,h,n,b,W0⟩ : AS).st H) e (s'.st H') :=by
  intro k
  induction k with
  |zero => intro a _ h;omega
  |succ k ih =>
   intro a hIa hm hx hpre hsm
   have hea :=headY_end (D :=df) (tm :=tm) (rd :=rd) (b :=b) (W :=W) (keep :=keep) (ut :=ut a) (uh :=uh a) (ux :=ux a) he
   have hhv :=headR_hv (D :=df) (tm :=tm) (rd :=rd) (b :=b) (W :=W) (keep :=keep) (ut :=ut a) (uh :=uh a) (ux :=ux a) he hx
   obtain ⟨e,s1,h1,h2,h3⟩ :=exC_ok hE (symSub_ok E.P) c _ _ (step a hIa _ rfl) hea
   have hkept:∀ x,x < b → x ∉ s1.wr → hv s1.h x = hv h x :=fun x hx hn => by
    have k1:Kept b (headY df tm rd h n b W keep (ut a) (uh a) (ux a)).h W s1.h s1.wr :=h2.kept
    rw [k1.same x hx hn,hhv]
    unfold zo
    rw [if_pos (by omega)]
    exact hsm x hx fun h => hn (k1.sub x h)
   have haft:Aft ⟨tm,df,pm,rd,h,n,b,W0⟩ s1 :=⟨h2.he,h2.b,fun x hx => (by
    have k1:Kept b (headY df tm rd h n b W keep (ut a) (uh a) (ux a)).h W s1.h s1.wr :=h2.kept
    exact k1.sub x (hW x hx)),hkept⟩
   by_cases hn:e = .normal
   ·subst hn
    obtain ⟨a',rs,hIa',hlt,hah⟩ :=h1
    refine ih a' hIa' (by omega) hah.zx.get (fun B H hH => ?_) fun x hx hn => ?_
    ·intro g0 fr0 cs0 w0 kk hr0 hm0 ht0
     obtain ⟨g,fr,cs,w,q1,q2,q3,q4,q5,q6,q7⟩ :=hpre B H hH g0 fr0 cs0 w0 kk hr0 hm0 ht0
     obtain ⟨H1,k1,k2⟩ :=h3 B ⟨n + (ux a).length,n + (ux a).length,zo n (ux a) (hv (tput (uh a) h))⟩ hhv.symm
     obtain ⟨g',fr',cs',w',r1,r2,r3,r4,r5,r6,r7⟩ :=k2 g fr cs w (.inLoop c :: kk) q1 q5 q6 (fun e => by cases e) _ rfl
     have hL:∀ i,H.L i → i < n :=fun i hi => by
      apply Nat.lt_of_not_le
      intro hle
      have hi:H.o i ≠ .hole :=hi
      rw [hH] at hi
      exact hi (he.hole hle)
     obtain ⟨z1,z2⟩ :=hah.adapt hB hD k1 hL r1 (q2.trans r2)
     refine ⟨_,{ fr' with todo :=its ++ kk },cs',w',z1.todo _,z2,⟨r3.fn.trans q3.fn,r3.kind.trans q3.kind,r3.round.trans q3.round⟩,?_,r6.1,rfl,q7.trans (r7.trans (step_go ?_))⟩
     ·subst hpm
      have e1:cs' = cs :=r4
      rw [e1];exact q4
     ·simp [stepG,stepG.exec,r6.1,r6.2,its]
    ·obtain ⟨y,k1,⟨z,k2,k3⟩,_⟩ :=hah.old hB x (by omega)
     have e1:hv (tput (uh a') h) x = hv s1.h x :=by
      unfold hv
      rw [k1,k2]
      exact (k3.2 hx hn).symm
     rw [e1]
     exact hkept x hx (by rw [hah.wr];exact hn)
   ·have plain:K e s1 → ∃ e s',K e s' ∧ Aft ⟨tm,df,pm,rd,h,n,b,W0⟩ s' ∧ ∀ (B:Nat) (H:AH),H.o = hv h → ∃ H':AH,H'.o = hv s'.h ∧ SemL E.P B c ((⟨tm,df,pm,rd,h,n,b,W0⟩ : AS).st H) e (s'.st H') :=fun hk => by
     refine ⟨e,s1,hk,haft,fun B H hH => ?_⟩
     obtain ⟨H1,k1,k2⟩ :=h3 B ⟨n + (ux a).length,n + (ux a).length,zo n (ux a) (hv (tput (uh a) h))⟩ hhv.symm
     have k3 :=SemL.stop k2 hn
     refine ⟨H1,k1,fun g0 fr0 cs0 w0 kk hr0 hm0 ht0 hro k' hk' => ?_⟩
     obtain ⟨g,fr,cs,w,q1,q2,q3,q4,q5,q6,q7⟩ :=hpre B H hH g0 fr0 cs0 w0 kk hr0 hm0 ht0
     obtain ⟨g',fr',cs',w',r1,r2,r3,r4,r5,r6,r7⟩ :=k3 g fr cs w kk q1 q5 q6 (fun _ => trivial) k' hk'
     refine ⟨g',fr',cs',w',r1,q2.trans r2,q3.trans r3,?_,?_,r6,q7.trans r7⟩
     ·subst hpm
      have e1:cs = cs0 :=q4
      have e2:cs' = cs :=r4
      show cs' = cs0
      rw [e2,e1]
     ·subst hpm
      exact r5
    cases e with
    |normal => exact absurd rfl hn
    |ret => exact plain h1
    |panic l => exact plain h1
    |exit id => exact plain h1
 refine main (m a0 + 1) a0 hI (by omega) (by rw [hu0];intro j hj;exact absurd hj (Nat.not_lt_zero _)) (fun B H hH => ?_) fun x hx hn => ?_
 ·intro g0 fr0 cs0 w0 kk hr0 hm0 ht0
  have hL:∀ i,H.L i → i < n :=fun i hi => by
   apply Nat.lt_of_not_le
   intro hle
   have hi:H.o i ≠ .hole :=hi
   rw [hH] at hi
   exact hi (he.hole hle)
  obtain ⟨z1,z2⟩ :=h0.adapt hB hD hH hL hr0 (Out.refl hr0.h)
  exact ⟨_,fr0,cs0,w0,z1,z2,⟨rfl,rfl,rfl⟩,CsOk.refl _ _ _ hr0.pm,hm0,ht0,.refl _ _⟩
 ·obtain ⟨y,k1,⟨z,k2,k3⟩,_⟩ :=h0.old hB x (by omega)
  unfold hv
  rw [k1,k2]
  exact (k3.2 hx hn).symm
end
end
end Go.Abs

/-! Loops, with heads whose old objects need not be looked at for what they refer to. -/
namespace Go.Abs
open Go
noncomputable section
theorem OLive.bd_of {L:Nat → Prop} {n:Nat} (hL:∀ i,L i → i < n) {o:AObj} (h:OLive L o):OBd n o :=by
 cases o with
 |cells t _ _ => exact fun j a hj => Live.bd_le hL a (h j a hj)
 |mapo es =>
  intro p hp
  induction es with
  |nil => cases hp
  |cons q es ih =>
   rcases List.mem_cons.1 hp with e | hp
   ·subst e;exact ⟨Live.bd_le hL _ h.1,Live.bd_le hL _ h.2.1⟩
   ·exact ih h.2.2 hp
 |mrow => exact Lives.bd_le hL _ h
 |miter => exact hL _ h
 |loop => exact ⟨fun j a hj => Live.bd_le hL a (h.1 j a hj),hL _ h.2⟩
 | _ => trivial
section
variable {D:List ADf} {tm:Tr AV} {rd:Bool} {h:Tr AObj} {n b:Nat} {W:List Nat} {s':AS} {keep:List Nat} {ut:List (Nat × AV)} {uh:List (Nat × AObj)} {ux:List AObj}
theorem AtZ.at (ha:AtZ D tm rd h n b W keep ut uh ux s'):∀ i,i < n + ux.length → ∃ x,(appT ux n (tput uh h)).get i = some x ∧ (∃ y,s'.h.get i = some y ∧ atR b W i y x) ∧ ((∀ i,i < n → OBd n (hv h i)) → (∀ i,n ≤ i → h.get i = none) → OBd (n + ux.length) x) :=fun i hi => by
 obtain ⟨N,e,h1,h2,h3,h4,h5⟩ :=ha.all
 rw [endN_eq] at e
 subst e
 obtain ⟨x,hx⟩ :=fullB.lt h5 i hi
 refine ⟨x,hx,?_,fun hOB hend => ?_⟩
 ·obtain ⟨y,k1,k2⟩ :=TrIw.get i _ _ 0 1 h2 x hx
  rw [Nat.zero_add,Nat.one_mul] at k2
  exact ⟨y,k1,k2⟩
 ·rcases appT_mem ux n _ i x hx with k | k
  ·rcases (tput_get _ _ _ _ k).2 with k | ⟨_,k⟩
   ·exact (h3.mem i x k).ok
   ·have hin:i < n :=Nat.lt_of_not_le fun hle => by rw [hend i hle] at k;cases k
    have :=hOB i hin
    unfold hv at this
    rw [k] at this
    exact this.mono (Nat.le_add_right _ _)
  ·exact (h4.mem x k).ok
theorem AtZ.wk (ha:AtZ D tm rd h n b W keep ut uh ux s'):∀ i,i < n + ux.length → OWk (hv s'.h i) (hv (headY D tm rd h n b W keep ut uh ux).h i) :=fun i hi => by
 obtain ⟨x,k1,⟨y,k2,k3⟩,_⟩ :=ha.at i hi
 show OWk (hv s'.h i) (hv (appT ux n (tput uh h)) i)
 unfold hv
 rw [k1,k2]
 exact k3.1
theorem AtZ.same (ha:AtZ D tm rd h n b W keep ut uh ux s'):∀ x,x < n + ux.length → x < b → x ∉ W → hv (headY D tm rd h n b W keep ut uh ux).h x = hv s'.h x :=fun i hi hb hw => by
 obtain ⟨x,k1,⟨y,k2,k3⟩,_⟩ :=ha.at i hi
 show hv (appT ux n (tput uh h)) i = hv s'.h i
 unfold hv
 rw [k1,k2]
 exact (k3.2 hb hw).symm
theorem AtZ.obd (ha:AtZ D tm rd h n b W keep ut uh ux s') (hend:∀ i,n ≤ i → h.get i = none) (hOB:∀ i,i < n → OBd n (hv h i)):∀ i,i < n + ux.length → OBd (n + ux.length) (hv (headY D tm rd h n b W keep ut uh ux).h i) :=fun i hi => by
 obtain ⟨x,k1,_,k4⟩ :=ha.at i hi
 show OBd _ (hv (appT ux n (tput uh h)) i)
 unfold hv
 rw [k1]
 exact k4 hOB hend
theorem AtZ.tms (ha:AtZ D tm rd h n b W keep ut uh ux s'):∀ i a,(headY D tm rd h n b W keep ut uh ux).tm.get i = some a → ∃ y,s'.tm.get i = some y ∧ WkV y a ∧ bd a ≤ n + ux.length :=by
 intro i a hi
 obtain ⟨N,e,h1t,_⟩ :=ha.all
 rw [endN_eq] at e
 subst e
 obtain ⟨⟨y,h1⟩,h2⟩ :=tput_get _ _ _ _ hi
 rcases h2 with h2 | ⟨_,h3⟩
 ·obtain ⟨⟨y,k1,k2⟩,k3⟩ :=h1t.mem i a h2
  exact ⟨y,k1,k2,k3⟩
 ·rw [unkT_get] at h3
  have hd:(s'.tm.get i).map (fun _ => AV.unk) = (tm.get i).map fun _ => AV.unk :=by rw [← unkT_get,← unkT_get,ha.dom]
  cases hs:tm.get i with
  |none => rw [hs] at h3;cases h3
  |some z =>
   rw [hs] at h3 hd
   simp only [Option.map_some,Option.some.injEq] at h3
   subst h3
   cases hs':s'.tm.get i with
   |none => rw [hs'] at hd;cases hd
   |some z' => exact ⟨z',rfl,WkV.unk z',Nat.zero_le _⟩
end
theorem sym_loopQ {E:Env} (hE:E.Ok) {S:Sub} (hS:S = symSub E.P) {A:Type} {c:Code} {f:AS → KE → Prop} {tm:Tr AV} {df:List ADf} {pm:APm} {rd:Bool} {h:Tr AObj} {n b:Nat} {W0:List Nat} {K:KE}
  (W:List Nat) (hW:∀ x,x ∈ W0 → x ∈ W) (keep:List Nat) (ut:A → List (Nat × AV)) (uh:A → List (Nat × AObj)) (ux:A → List AObj) (I:A → Prop) (m:A → Nat) (a0:A) (hbn:b ≤ n) (hD:Dm n df) (hu0:ux a0 = [])
  (h0:AtZ df tm rd h n b W keep (ut a0) (uh a0) (ux a0) ⟨tm,df,pm,rd,h,n,b,W⟩) (hI:I a0)
  (step:∀ a,I a → ∀ N,N = endN (ux a) n → exC c E S ⟨tput (apL (kept tm keep) (ut a)) (unkT tm),df,.no,rd,appT (ux a) n (tput (uh a) h),N,b,W⟩ fun e s' => @AEx.rec (fun _ => Prop)
   (∃ a',I a' ∧ m a' < m a ∧ (ux a).length ≤ (ux a').length ∧ AtZ df tm rd h n b W keep (ut a') (uh a') (ux a') s')
   (fun id => K (.exit id) s' ∨ ∃ (ut':List (Nat × AV)) (uh':List (Nat × AObj)) (ux':List AObj) (N:Nat),N = endN ux' n ∧ (ux a).length ≤ ux'.length ∧ AtZ df tm rd h n b W keep ut' uh' ux' s' ∧ K (.exit id) ⟨tput (apL (kept tm keep) ut') (unkT tm),df,.no,rd,appT ux' n (tput uh' h),N,b,W⟩)
   (K .ret s') (fun l => K (.panic l) s') e):S.loop c f ⟨tm,df,pm,rd,h,n,b,W0⟩ K :=by
 subst hS
 intro he
 simp only at he
 have main:∀ (k:Nat) (a:A),I a → m a < k → ∃ e s',K e s' ∧ Aft (headY df tm rd h n b W keep (ut a) (uh a) (ux a)) s' ∧ ((∀ i,i < n → OBd n (hv h i)) → ∀ (B:Nat) (H:AH),H.o = hv (headY df tm rd h n b W keep (ut a) (uh a) (ux a)).h →
   ∃ H':AH,H'.o = hv s'.h ∧ SemL E.P B c ((headY df tm rd h n b W keep (ut a) (uh a) (ux a)).st H) e (s'.st H')) :=by
  intro k
  induction k with
  |zero => intro a _ h;omega
  |succ k ih =>
   intro a hIa hm
   have hea :=headY_end (D :=df) (tm :=tm) (rd :=rd) (b :=b) (W :=W) (keep :=keep) (ut :=ut a) (uh :=uh a) (ux :=ux a) he
   obtain ⟨e,s1,h1,h2,h3⟩ :=exC_ok hE (symSub_ok E.P) c _ _ (step a hIa _ rfl) hea
   have livelt:∀ (H:AH),H.o = hv (headY df tm rd h n b W keep (ut a) (uh a) (ux a)).h → ∀ i,H.L i → i < n + (ux a).length :=fun H hH i hi => by
    apply Nat.lt_of_not_le
    intro hle
    have hi:H.o i ≠ .hole :=hi
    rw [hH] at hi
    exact hi (hea.hole (by show endN (ux a) n ≤ i;rw [endN_eq];exact hle))
   have keptTo:∀ (ut':List (Nat × AV)) (uh':List (Nat × AObj)) (ux':List AObj),AtZ df tm rd h n b W keep ut' uh' ux' s1 → Kept b (headY df tm rd h n b W keep (ut a) (uh a) (ux a)).h W (headY df tm rd h n b W keep ut' uh' ux').h W :=by
    intro ut' uh' ux' hah
    have k1:Kept b (headY df tm rd h n b W keep (ut a) (uh a) (ux a)).h W s1.h s1.wr :=h2.kept
    rw [hah.wr] at k1
    exact ⟨fun x hx => hx,fun x hx hn => (hah.same x (by omega) hx hn).trans (k1.same x hx hn)⟩
   have postTo:(∀ i,i < n → OBd n (hv h i)) → ∀ (ut':List (Nat × AV)) (uh':List (Nat × AObj)) (ux':List AObj),(e = .normal ∨ ∃ id,e = .exit id) → (ux a).length ≤ ux'.length → AtZ df tm rd h n b W keep ut' uh' ux' s1 → ∀ (B:Nat) (H:AH),H.o = hv (headY df tm rd h n b W keep (ut a) (uh a) (ux a)).h →
     ∃ H2:AH,H2.o = hv (headY df tm rd h n b W keep ut' uh' ux').h ∧ Sem E.P B c ((headY df tm rd h n b W keep (ut a) (uh a) (ux a)).st H) e ((headY df tm rd h n b W keep ut' uh' ux').st H2) :=by
    intro hOB ut' uh' ux' hee hle hah B H hH
    obtain ⟨H1,k1,k2⟩ :=h3 B H hH
    refine ⟨⟨n + ux'.length,n + ux'.length,fun i => if i < n + ux'.length then hv (headY df tm rd h n b W keep ut' uh' ux').h i else .hole⟩,(AtY.obj he).symm,?_⟩
    refine SemT.postY hee k2 (m :=n + ux'.length) (o :=hv (headY df tm rd h n b W keep ut' uh' ux').h) rfl (fun i hi => by show OWk (H1.o i) _;rw [k1];exact hah.wk i hi) (hah.obd he hOB) hah.tms (hD.mono (Nat.le_add_right _ _)) hah.df rfl rfl hah.rd.symm fun i hi => ?_
    have :=livelt H hH i hi
    omega
   by_cases hn:e = .normal
   ·subst hn
    obtain ⟨a',hIa',hlt,hle,hah⟩ :=h1
    obtain ⟨e2,s2,q1,q2,q3⟩ :=ih a' hIa' (by omega)
    refine ⟨e2,s2,q1,⟨q2.he,q2.b,(keptTo _ _ _ hah).trans q2.kept⟩,fun hOB B H hH => ?_⟩
    obtain ⟨H1,k1,k2⟩ :=postTo hOB _ _ _ (.inl rfl) hle hah B H hH
    obtain ⟨H2,k3,k4⟩ :=q3 hOB B H1 k1
    exact ⟨H2,k3,SemL.next k2 k4⟩
   ·have plain : K e s1 → ∃ e s', K e s' ∧ Aft (headY df tm rd h n b W keep (ut a) (uh a) (ux a)) s' ∧ ((∀ i, i < n → OBd n (hv h i)) → ∀ (B : Nat) (H : AH), H.o = hv (headY df tm rd h n b W keep (ut a) (uh a) (ux a)).h →
      ∃ H':AH,H'.o = hv s'.h ∧ SemL E.P B c ((headY df tm rd h n b W keep (ut a) (uh a) (ux a)).st H) e (s'.st H')) :=fun hk => by
     refine ⟨e,s1,hk,h2,fun _ B H hH => ?_⟩
     obtain ⟨H1,k1,k2⟩ :=h3 B H hH
     exact ⟨H1,k1,SemL.stop k2 hn⟩
    cases e with
    |normal => exact absurd rfl hn
    |ret => exact plain h1
    |panic l => exact plain h1
    |exit id =>
     rcases h1 with h1 | ⟨ut',uh',ux',N,rfl,hle,hah,hk⟩
     ·exact plain h1
     ·refine ⟨.exit id,_,hk,⟨headY_end he,rfl,keptTo _ _ _ hah⟩,fun hOB B H hH => ?_⟩
      obtain ⟨H1,k1,k2⟩ :=postTo hOB _ _ _ (.inr ⟨id,rfl⟩) hle hah B H hH
      exact ⟨H1,k1,SemL.stop k2 hn⟩
 obtain ⟨e,s',h1,h2,h3⟩ :=main (m a0 + 1) a0 hI (by omega)
 have hl0:n + (ux a0).length = n :=by rw [hu0];rfl
 refine ⟨e,s',h1,⟨h2.he,h2.b,?_⟩,fun B H hH => ?_⟩
 ·have k:Kept b (headY df tm rd h n b W keep (ut a0) (uh a0) (ux a0)).h W s'.h s'.wr :=h2.kept
  exact ⟨fun x hx => k.sub x (hW x hx),fun x hx hn => (k.same x hx hn).trans (h0.same x (by have:x < b :=hx;omega) hx fun e => hn (k.sub x e))⟩
 ·have hob :=AtY.obj (D :=df) (tm :=tm) (rd :=rd) (b :=b) (W :=W) (keep :=keep) (ut :=ut a0) (uh :=uh a0) (ux :=ux a0) he
  have heo:(∀ i,i < n → OBd n (hv h i)) ∨ ¬ (∀ i,i < n → OBd n (hv h i)) :=Classical.em _
  rcases heo with hOB | hno
  case inr =>
   -- there is no such state
   refine ⟨⟨n,n,hv s'.h⟩,rfl,?_⟩
   intro g fr cs w kk hr hmo ht hro k' hk
   refine absurd (fun i hi => ?_) hno
   have hlt:∀ j,H.L j → j < n :=fun j hj => Nat.lt_of_not_le fun hle => by
    have hj:H.o j ≠ .hole :=hj
    rw [hH] at hj
    exact hj (he.hole hle)
   have hlv :=hr.h.live i
   have e1:((⟨tm,df,pm,rd,h,n,b,W0⟩ : AS).st H).H.o i = hv h i :=by show H.o i = _;rw [hH]
   rw [e1] at hlv
   exact OLive.bd_of hlt hlv
  obtain ⟨H',k1,k2⟩ :=h3 hOB B ⟨n + (ux a0).length,n + (ux a0).length,fun i => if i < n + (ux a0).length then hv (headY df tm rd h n b W keep (ut a0) (uh a0) (ux a0)).h i else .hole⟩ hob.symm
  refine ⟨H',k1,?_⟩
  intro g fr cs w kk hr hmo ht hro k' hk
  have hr2:FrRel g B w ((headY df tm rd h n b W keep (ut a0) (uh a0) (ux a0)).st ⟨n + (ux a0).length,n + (ux a0).length,fun i => if i < n + (ux a0).length then hv (headY df tm rd h n b W keep (ut a0) (uh a0) (ux a0)).h i else .hole⟩) fr cs :=
   FrRel.cutY hr (m :=n + (ux a0).length) (o :=hv (headY df tm rd h n b W keep (ut a0) (uh a0) (ux a0)).h) rfl (fun i hi => by show OWk (H.o i) _;rw [hH];exact h0.wk i hi) (h0.obd he hOB) h0.tms (hD.mono (Nat.le_add_right _ _)) h0.df rfl rfl h0.rd.symm
  obtain ⟨g',fr',cs',w',q1,q2,q3,q4,q5,q6,q7⟩ :=k2 g fr cs w kk hr2 hmo ht hro k' hk
  have hL:∀ i,H.L i → i < n :=fun i hi => by
   apply Nat.lt_of_not_le
   intro hle
   have hi:H.o i ≠ .hole :=hi
   rw [hH] at hi
   exact hi (he.hole hle)
  refine ⟨g',fr',cs',w',q1,?_,q3,?_,?_,q6,q7⟩
  ·exact q2.weak (fun i => by
    show OWk (H.o i) (if i < n + (ux a0).length then hv (headY df tm rd h n b W keep (ut a0) (uh a0) (ux a0)).h i else .hole)
    by_cases e:i < n + (ux a0).length
    ·rw [if_pos e,hH];exact h0.wk i e
    ·rw [if_neg e,hH,he.hole (by omega)];exact .same _)
  ·have e:APm.no = pm :=h0.pm.symm
   exact e ▸ q4
  ·have e:APm.no = pm :=h0.pm.symm
   exact e ▸ q5
end
end Go.Abs

/-! Closures that append to a list that they have captured: the list's cell is one of the first objects, its chain stands wherever it does. -/
namespace Go.Abs
open Go
noncomputable section
abbrev LState :=Option (List AV × Nat)
def lchn (sz:Nat) (e:TypeId):LState → AObj
 |none => .hole
 |some (_,k) => .chain k sz e
def LBd (m:Nat):LState → Prop
 |none => True
 |some (xs,_) => bdl xs ≤ m
theorem lchn_bk (g:Gh) {sz e i} {L:LState} (h:lchn sz e L ≠ .hole):g.bk (lchn sz e L) i = g.cb i :=by
 rcases L with _ | ⟨xs,k⟩
 ·exact absurd rfl h
 ·rfl
theorem lchn_some {sz e} {L:LState}:lchn sz e L ≠ .hole ↔ L ≠ none :=by
 rcases L with _ | ⟨xs,k⟩
 ·exact ⟨fun h => absurd rfl h,fun h => absurd rfl h⟩
 ·exact ⟨fun _ h => (nomatch h),fun _ h => (nomatch h)⟩
def AH.lput (H:AH) (a c:Nat) (x y:AObj):AH :=⟨max (c + 1) H.n,max (c + 1) H.keep,fun i => if i = a then x else if i = c then y else H.o i⟩
theorem vrel_ch {g g':Gh} {w w':World} {S:Nat → Prop} (hx:Ext S g w g' w') {xs:List AV} {k c c':Nat} {v:Value} (hl:Lives S xs) (e1:g'.cn c' = g.cn c) (e2:g'.cb c' = g.cb c) (e3:g'.cc c' = g.cc c) (h:VRel g w (.lst xs k (.ch c)) v):VRel g' w' (.lst xs k (.ch c')) v :=by
 obtain ⟨b,off,cap,rfl,h1,h2,h3,h4⟩ :=h
 have :=VRel.ext hx (.lst xs k .no) _ ⟨hl,fun _ e => nomatch e⟩ ⟨b,off,cap,rfl,h1,h2,h3,trivial⟩
 obtain ⟨b',off',cap',e,k1,k2,k3,_⟩ :=this
 cases e
 refine ⟨b,off,cap,rfl,k1,k2,k3,?_⟩
 show k ≤ g'.cn c' ∧ (k = g'.cn c' → b = g'.cb c' ∧ off = 0 ∧ cap = g'.cc c')
 rw [e1,e2,e3]
 exact h4
theorem orel_lchn {g g':Gh} {w w':World} {sz e c c'} {L:LState} (e1:L ≠ none → g'.cn c' = g.cn c ∧ g'.cb c' = g.cb c ∧ g'.cc c' = g.cc c) (hh:w'.heap[g.cb c]? = w.heap[g.cb c]?) (hi:g'.im (g.cb c) = g.im (g.cb c)) (h:ORel g w c (lchn sz e L)):ORel g' w' c' (lchn sz e L) :=by
 rcases L with _ | ⟨xs,k⟩
 ·trivial
 ·obtain ⟨arr,h1,h2,h3,h4,h5⟩ :=h
  obtain ⟨q1,q2,q3⟩ :=e1 (fun e => nomatch e)
  exact ⟨arr,by rw [q2,hh];exact h1,by rw [q2,hi];exact h2,by rw [q3];exact h3,by rw [q3];exact h4,by rw [q1];exact h5⟩
def ObEqA (b:Nat → AObj) (h:Tr AObj) (a:Nat) (k:Nat):Prop :=@Nat.rec (fun _ => Prop) True (fun i ih => (i = a ∨ hv h i = b i) ∧ ih) k
theorem ObEqA.lt {b:Nat → AObj} {h:Tr AObj} {a:Nat}:∀ {k:Nat},ObEqA b h a k → ∀ i,i < k → i ≠ a → hv h i = b i
 |k + 1,hk,i,hi,hn => by
  by_cases e:i = k
  ·subst e;exact hk.1.resolve_left hn
  ·exact ObEqA.lt hk.2 i (by omega) hn
def ObBdA (m:Nat) (b:Nat → AObj) (a:Nat) (k:Nat):Prop :=@Nat.rec (fun _ => Prop) True (fun i ih => (i = a ∨ BdO m (b i)) ∧ ih) k
theorem ObBdA.lt {m:Nat} {b:Nat → AObj} {a:Nat}:∀ {k:Nat},ObBdA m b a k → ∀ i,i < k → i ≠ a → OBd m (b i)
 |k + 1,hk,i,hi,hn => by
  by_cases e:i = k
  ·subst e;exact (hk.1.resolve_left hn).ok
  ·exact ObBdA.lt hk.2 i (by omega) hn
section
variable {P:Program} {S:Sub} (hS:S = symSub P) {f:FuncId} {args:List AV} {h:Tr AObj} {n:Nat} {K:AEnd → Tr AObj → Nat → List Nat → Prop} {b:Nat → AObj} {m a:Nat} {ty:TypeId} {sz:Nat} {e:TypeId} {v:AV}
include hS
end
end
end Go.Abs

namespace Go.Abs
open Go
noncomputable section

end
end Go.Abs
/-! Parts of code that are not yet carried out: blocks, and loops. -/
namespace Go.Abs
open Go
noncomputable section
section
variable {D:List ADf} {tm:Tr AV} {rd:Bool} {h:Tr AObj} {n b:Nat} {W:List Nat} {s':AS} {keep:List Nat} {ut:List (Nat × AV)} {uh:List (Nat × AObj)} {ux:List AObj} {rs:List Nat}
end
end
end Go.Abs

/-! Walks through maps: any entry may come next. -/
namespace Go.Abs
open Go
noncomputable section
/-! ### All ways lead to one end -/
def cutH (s:AS):AH :=⟨s.n,s.n,hv s.h⟩
def SemB (P:Program) (its:List Item) (s0 s:AS) (e:AEx) (s':AS):Prop :=
 ∀ (B:Nat) (H0 H:AH),H0.o = hv s0.h → H.o = hv s.h → ∀ g0 w0 g fr cs w k,Out g0 B w0 H0 g w H → FrRel g B w (s.st H) fr cs → fr.mode = .run → fr.todo = its ++ k →
  (∀ l,s.pm ≠ .pan l) → (e = .ret → True) → ∀ k',tgt e k = some k' →
  ∃ g' fr' cs' w',FrRel g' B w' (s'.st (cutH s')) fr' cs' ∧ Out g0 B w0 H0 g' w' (cutH s') ∧ SameFr fr fr' ∧ cs' = cs ∧ ExOk g' w' (cutH s').L e fr' k' ∧ Steps P (lone fr cs w) (lone fr' cs' w')
section
variable {P:Program} {its its1:List Item} {s0 s s1 s':AS} {e:AEx}
theorem SemB.round {c:Code} (k:SemB P [.code c,.inLoop c] s0 s e s'):SemB P [.inLoop c] s0 s e s' :=by
 intro B H0 H hH0 hH g0 w0 g fr cs w kk ho hr hm ht hp hro k' hk
 have hst:Steps P (lone fr cs w) (lone { fr with todo :=[.code c,.inLoop c] ++ kk } cs w) :=step_go (by
  simp only [List.cons_append,List.nil_append] at ht
  simp [stepG,stepG.exec,hm,ht])
 obtain ⟨g2,fr2,cs2,w2,f1,f2,f3,f4,f5,f6⟩ :=k B H0 H hH0 hH g0 w0 g { fr with todo :=[.code c,.inLoop c] ++ kk } cs w kk ho (hr.todo _) hm rfl hp hro k' hk
 exact ⟨g2,fr2,cs2,w2,f1,f2,⟨f3.fn,f3.kind,f3.round⟩,f4,f5,hst.trans f6⟩
theorem SemB.seq {c1 c2:Code} (k:SemB P (.code c1 :: .code c2 :: its) s0 s e s'):SemB P (.code (.seq c1 c2) :: its) s0 s e s' :=by
 intro B H0 H hH0 hH g0 w0 g fr cs w kk ho hr hm ht hp hro k' hk
 have hst:Steps P (lone fr cs w) (lone { fr with todo :=.code c1 :: .code c2 :: (its ++ kk) } cs w) :=step_go (by
  simp only [List.cons_append] at ht
  simp [stepG,stepG.exec,hm,ht])
 obtain ⟨g2,fr2,cs2,w2,f1,f2,f3,f4,f5,f6⟩ :=k B H0 H hH0 hH g0 w0 g { fr with todo :=.code c1 :: .code c2 :: (its ++ kk) } cs w kk ho (hr.todo _) hm rfl hp hro k' hk
 exact ⟨g2,fr2,cs2,w2,f1,f2,⟨f3.fn,f3.kind,f3.round⟩,f4,f5,hst.trans f6⟩
end
section
variable {tm:Tr AV} {rd:Bool} {h:Tr AObj} {n b:Nat} {W:List Nat} {s0 s1:AS} {keep:List Nat} {ut:List (Nat × AV)} {uh:List (Nat × AObj)}
end
end
end Go.Abs

namespace Go.Abs
open Go
noncomputable section
def ghOf (m:Nat → Nat) (w:World):Gh :=⟨fun _ => 0,fun b => if b < w.heap.size then m b else 0,fun _ => 0,fun _ => 0,fun _ => 0⟩
theorem HRel.old (m:Nat → Nat) (w:World) (hg:GOk (ghOf m w) w):HRel (ghOf m w) w.heap.size w AH.nil where
 wf :=fun _ _ => rfl
 ge :=fun _ h => absurd rfl h
 inj :=fun _ _ h => absurd rfl h
 rel :=fun _ => trivial
 live :=fun _ => trivial
 kp :=fun _ => trivial
 imz :=fun _ hb => if_neg (Nat.not_lt.2 hb)
 hB :=Nat.le_refl _
 gl :=hg
theorem Pure.callsAt {P:Program} {f:FuncId} {args:List AV} {b:Bool} (h:Pure P f args (.bool b)) {w:World} {vs:Array Value} (m:Nat → Nat) (hg:GOk (ghOf m w) w) (hv:VRels (ghOf m w) w args vs.toList) (hl:Lives noL args) :
  Calls P f vs w (fun e w' => e = .returned (.bool b) ∧ RowKit.Below w.heap.size w w') :=by
 intro cs
 obtain ⟨g',fr',w',h1,h2,h3,u,h4,h5,_⟩ :=h.2 w.heap.size AH.nil _ vs cs w (HRel.old m w hg) hv hl.ofNo
 simp only [VRel] at h5
 subst h5
 exact ⟨.returned (.bool b),w',fr',⟨rfl,h1.below⟩,h2,h3,h4⟩
theorem VRels.one {g:Gh} {w:World} {x:AV} {u:Value} {xs:List AV} {us:List Value} (h:VRel g w x u) (hs:VRels g w xs us):VRels g w (x :: xs) (u :: us) :=⟨u,us,rfl,h,hs⟩

theorem CSem.same {P:Program} {B:Nat} {f:FuncId} {args:List AV} {H H2:AH} {e:AEnd} (h:CSem P B f args H e H2) (ho:H2.o = H.o):CSem P B f args H e H :=by
 intro g vs cs w hr hv hl
 obtain ⟨g',fr',w',h1,h2,h3,h4⟩ :=h g vs cs w hr hv hl
 have hL:H2.L = H.L :=by funext i;unfold AH.L;rw [ho]
 have rel :=h1.rel
 have ext :=h1.ext
 have own :=h1.own
 have frame :=h1.frame
 refine ⟨g',fr',w',⟨?_,ext,h1.below,fun _ hi => hi,frame,?_⟩,h2,h3,by rw [← hL];exact h4⟩
 ·exact { wf :=hr.wf,ge :=by rw [← ho];exact rel.ge,inj :=by rw [← ho];exact rel.inj,rel :=by rw [← ho];exact rel.rel,live :=by rw [← ho,← hL];exact rel.live,kp :=hr.kp,imz :=rel.imz,hB :=rel.hB,gl :=rel.gl }
 ·intro k hk
  have e:Owned g' H2 k :=by
   obtain ⟨i,hi,ei⟩ :=hk
   exact ⟨i,by rw [ho];exact hi,by rw [ho];exact ei⟩
  exact own k e

end
end Go.Abs
/-! Code cut between two parts, where lists that grew in the first part become cells that may be written to in the second one. -/
namespace Go.Abs
open Go
noncomputable section
def thG (g:Gh) (n:Nat) (rs:List Nat):Gh :={ g with ob :=fun i => if i < n then g.ob i else g.cb (rs.getD (i - n) 0) }
theorem thG_ext (g:Gh) (n:Nat) (rs:List Nat) (w:World):Ext (fun i => i < n) g w (thG g n rs) w :=
 ⟨fun _ hi => if_pos hi,fun _ _ => Nat.le_refl _,fun _ _ _ => ⟨rfl,rfl⟩,fun _ => Nat.le_refl _,fun _ _ _ => rfl⟩
inductive ThV (n:Nat) (rs:List Nat) (ux:List AObj) (o:Nat → AObj):AV → AV → Prop
 |wk {y a:AV} (h:WkV y a) (b:bd a ≤ n):ThV n rs ux o y a
 |ch {k j c d sz:Nat} {ty:TypeId} {xs:List AV} {t:Tr AV} (hk:0 < k) (hj:j < ux.length) (e:rs.getD j 0 = c) (e2:d = n + j) (ho:o c = .mrow xs k sz ty) (hx:ux.getD j .hole = .cells t (k * sz) ty):ThV n rs ux o (.lst [] k (.ch c)) (.slc d 0 k 0)
def ThE (n:Nat) (rs:List Nat) (ux:List AObj) (o:Nat → AObj) (es es':List (AV × AV)):Prop :=
 @List.rec (AV × AV) (fun _ => List (AV × AV) → Prop) (fun es' => @List.rec (AV × AV) (fun _ => Prop) True (fun _ _ _ => False) es')
  (fun p _ ih es' => @List.rec (AV × AV) (fun _ => Prop) False (fun q r _ => ((WkV p.1 q.1 ∧ bd q.1 ≤ n) ∧ ThV n rs ux o p.2 q.2) ∧ ih r) es') es es'
inductive OTh (n:Nat) (rs:List Nat) (ux:List AObj) (o:Nat → AObj):AObj → AObj → Prop
 |same (x:AObj) (b:BdO n x):OTh n rs ux o x x
 |mapo {es es':List (AV × AV)} (h:ThE n rs ux o es es'):OTh n rs ux o (.mapo es) (.mapo es')
inductive UTh (n:Nat):AObj → AObj → Prop
 |row {xs:List AV} {k sz:Nat} {ty:TypeId} {t:Tr AV} (h:TOf xs t) (b:bdl xs ≤ n):UTh n (.mrow xs k sz ty) (.cells t (k * sz) ty)
section
variable {n:Nat} {rs:List Nat} {ux:List AObj} {g:Gh} {B:Nat} {w:World} {H:AH} {o:Nat → AObj}
theorem OTh.hole {x y:AObj} (h:OTh n rs ux o x y):x = .hole ↔ y = .hole :=by cases h <;> first | exact Iff.rfl | exact ⟨fun e => (nomatch e),fun e => (nomatch e)⟩
theorem thG_bk {x:AObj} {i:Nat} (hi:i < n):(thG g n rs).bk x i = g.bk x i :=by cases x <;> first | rfl | exact if_pos hi
theorem OTh.bk {x y:AObj} (h:OTh n rs ux o x y) {i:Nat} (hi:i < n):(thG g n rs).bk y i = g.bk x i :=by
 cases h with
 |same _ b => exact thG_bk hi
 |mapo h => exact if_pos hi
theorem ThV.rel {y a:AV} {u:Value} (k:ThV n rs ux H.o y a) (hr:HRel g B w H) (hl:Live H.L y) (hv:VRel g w y u):VRel (thG g n rs) w a u :=by
 cases k with
 |wk h b => exact VRel.ext (thG_ext g n rs w) a u (Live.mono (fun _ k => k.2) a (Live.below a (h.lv _ hl) b)) (h.wk _ _ _ hv)
 | @ch k j c d sz ty xs t hk hj e e2 ho hx =>
  simp only [VRel] at hv ⊢
  obtain ⟨b,off,cap,h1,h2,_,_,h5⟩ :=hv
  have hrc :=hr.rel c
  rw [ho] at hrc
  obtain ⟨arr,q1,q2,q3,q4,q5,q6,q7⟩ :=hrc
  obtain ⟨_,h5⟩ :=h5
  obtain ⟨h6,h7,h8⟩ :=h5 q5.symm
  subst h6 h7 h8
  have e1:(thG g n rs).ob d = g.cb c :=by
   show (if d < n then _ else g.cb (rs.getD (d - n) 0)) = _
   rw [if_neg (by omega),show d - n = j by omega,e]
  rw [e1]
  exact ⟨_,h1,h2,fun h => by omega⟩
theorem ThV.live {y a:AV} (k:ThV n rs ux H.o y a) {o':Nat → AObj} (ho:∀ i,i < n → (H.o i = .hole ↔ o' i = .hole)) (hl:Live H.L y):Live (AH.mk (n + ux.length) (n + ux.length) (zo n ux o')).L a :=by
 cases k with
 |wk h b =>
  refine Live.mono (fun i hi => ?_) a (Live.below a (h.lv _ hl) b)
  show zo n ux o' i ≠ .hole
  unfold zo
  rw [if_pos hi.2]
  exact fun e => hi.1 ((ho i hi.2).2 e)
 | @ch k j c d sz ty xs t hk hj e e2 h1 hx =>
  show zo n ux o' d ≠ .hole
  unfold zo
  rw [if_neg (by omega),show d - n = j by omega,hx]
  exact fun e => nomatch e
theorem ThE.rel:∀ {es es':List (AV × AV)} {ces:List MapEntry},ThE n rs ux H.o es es' → HRel g B w H → MLive H.L es → MRel g w es ces → MRel (thG g n rs) w es' ces
 | [],[],_,_,_,_,h => h
 | [],_ :: _,_,k,_,_,_ => k.elim
 | _ :: _,[],_,k,_,_,_ => k.elim
 |(a,b) :: es,(a',b') :: es',ces,k,hr,hl,h => by
  obtain ⟨e,es2,e1,h1,h2,h3⟩ :=h
  exact ⟨e,es2,e1,ThV.rel (rs :=rs) (ux :=ux) (.wk k.1.1.1 k.1.1.2) hr hl.1 h1,k.1.2.rel hr hl.2.1 h2,ThE.rel k.2 hr hl.2.2 h3⟩
theorem ThE.live {o':Nat → AObj} (ho:∀ i,i < n → (H.o i = .hole ↔ o' i = .hole)):∀ {es es':List (AV × AV)},ThE n rs ux H.o es es' → MLive H.L es → MLive (AH.mk (n + ux.length) (n + ux.length) (zo n ux o')).L es'
 | [],[],_,_ => trivial
 | [],_ :: _,k,_ => k.elim
 | _ :: _,[],k,_ => k.elim
 |(_,_) :: _,(_,_) :: _,k,hl => ⟨ThV.live (rs :=rs) (.wk k.1.1.1 k.1.1.2) ho hl.1,k.1.2.live ho hl.2.1,ThE.live ho k.2 hl.2.2⟩
end
def TmTh (n:Nat) (rs:List Nat) (ux:List AObj) (o:Nat → AObj) (tm:Tr AV) (l:List (Nat × AV)):Prop :=
 @List.rec (Nat × AV) (fun _ => Prop) True (fun p _ ih => @Prod.rec Nat AV (fun _ => Prop) (fun i x => (∃ y,tm.get i = some y ∧ ThV n rs ux o y x) ∧ ih) p) l
theorem TmTh.mem {n:Nat} {rs:List Nat} {ux:List AObj} {o:Nat → AObj} {tm:Tr AV}:∀ {l:List (Nat × AV)},TmTh n rs ux o tm l → ∀ j a,(j,a) ∈ l → ∃ y,tm.get j = some y ∧ ThV n rs ux o y a
 |(i,x) :: l,h,j,a,hm => by
  rcases List.mem_cons.1 hm with e | hm
  ·cases e;exact h.1
  ·exact TmTh.mem h.2 j a hm
def ObTh (n:Nat) (rs:List Nat) (ux:List AObj) (s:Nat → AObj) (h':Tr AObj) (k:Nat):Prop :=
 @Nat.rec (fun _ => Prop) True (fun i ih => OTh n rs ux s (s i) (hv h' i) ∧ ih) k
theorem ObTh.lt {n:Nat} {rs:List Nat} {ux:List AObj} {s:Nat → AObj} {h':Tr AObj}:∀ {k:Nat},ObTh n rs ux s h' k → ∀ i,i < k → OTh n rs ux s (s i) (hv h' i)
 |k + 1,hk,i,hi => by
  by_cases e:i = k
  ·subst e;exact hk.1
  ·exact ObTh.lt hk.2 i (by omega)
def UxTh (n:Nat) (s:Nat → AObj) (rs:List Nat):List AObj → Prop :=
 @List.rec Nat (fun _ => List AObj → Prop) (fun ux => @List.rec AObj (fun _ => Prop) True (fun _ _ _ => False) ux)
  (fun c _ ih ux => @List.rec AObj (fun _ => Prop) False (fun x r _ => (n ≤ c ∧ UTh n (s c) x) ∧ ih r) ux) rs
theorem UxTh.get {n:Nat} {s:Nat → AObj}:∀ {rs:List Nat} {ux:List AObj},UxTh n s rs ux → rs.length = ux.length ∧ ∀ j,j < rs.length → n ≤ rs.getD j 0 ∧ UTh n (s (rs.getD j 0)) (ux.getD j .hole)
 | [],[],_ => ⟨rfl,fun j h => absurd h (Nat.not_lt_zero _)⟩
 | [],_ :: _,h => h.elim
 | _ :: _,[],h => h.elim
 |c :: rs,x :: ux,h => by
  obtain ⟨h1,h2⟩ :=UxTh.get h.2
  refine ⟨by rw [List.length_cons,List.length_cons,h1],fun j hj => ?_⟩
  cases j with
  |zero => exact h.1
  |succ j =>
   rw [List.length_cons] at hj
   exact h2 j (by omega)
section
variable {tm:Tr AV} {rd:Bool} {h:Tr AObj} {n b:Nat} {W:List Nat} {s':AS} {keep:List Nat} {ut:List (Nat × AV)} {uh:List (Nat × AObj)} {ux:List AObj} {rs:List Nat}
end
end
end Go.Abs

namespace Go.Abs
open Go
noncomputable section

end
end Go.Abs
/-! Code cut between two parts: cells that were written in the first part never change in the second one. A list that grew becomes cells with room that is known. -/
namespace Go.Abs
open Go
noncomputable section
mutual
theorem noL_bd0:∀ (v:AV),Live noL v → bd v = 0
 | .unk,_ => rfl
 | .int _ _,_ => rfl
 | .bool _,_ => rfl
 | .str _,_ => rfl
 | .nilp,_ => rfl
 | .ptr _ _,h => h.elim
 | .lptr xs _,h => noLs_bd0 xs h
 | .gp _ _,_ => rfl
 | .nils,_ => rfl
 | .slc _ _ _ _,h => h.elim
 | .lst xs _ .no,h => noLs_bd0 xs h.1
 | .lst xs _ .full,h => noLs_bd0 xs h.1
 | .lst xs _ (.ch c),h => (h.2 c rfl).elim
 | .nilm,_ => rfl
 | .map _,h => h.elim
 | .nilf,_ => rfl
 | .func _ f c,h => by show Nat.max (bdl f) (bdl c) = 0;rw [noLs_bd0 f h.1,noLs_bd0 c h.2];rfl
 | .yld _,h => h.elim
 | .nili,_ => rfl
 | .iface _ a,h => noL_bd0 a h
 | .agg cs,h => noLs_bd0 cs h
 | .tup cs,h => noLs_bd0 cs h
theorem noLs_bd0:∀ (xs:List AV),Lives noL xs → bdl xs = 0
 | [],_ => rfl
 |x :: xs,h => by show Nat.max (bd x) (bdl xs) = 0;rw [noL_bd0 x h.1,noLs_bd0 xs h.2];rfl
end
def TmFz (o:Nat → AObj) (tm:Tr AV) (l:List (Nat × AV)):Prop :=
 @List.rec (Nat × AV) (fun _ => Prop) True (fun p _ ih => @Prod.rec Nat AV (fun _ => Prop) (fun i x => (∃ y,tm.get i = some y ∧ FzV o y x ∧ Live noL x) ∧ ih) p) l
theorem TmFz.mem {o:Nat → AObj} {tm:Tr AV}:∀ {l:List (Nat × AV)},TmFz o tm l → ∀ j a,(j,a) ∈ l → ∃ y,tm.get j = some y ∧ FzV o y a ∧ Live noL a
 |(i,x) :: l,h,j,a,hm => by
  rcases List.mem_cons.1 hm with e | hm
  ·cases e;exact h.1
  ·exact TmFz.mem h.2 j a hm
section
variable {tm:Tr AV} {rd:Bool} {W:List Nat} {s':AS} {keep:List Nat} {ut:List (Nat × AV)} {g g0:Gh} {B:Nat} {w w0:World} {H H0:AH}
end
/-! ### A list that grew, then cells with room that is known -/
def TmC (r k C:Nat) (tm:Tr AV) (l:List (Nat × AV)):Prop :=
 @List.rec (Nat × AV) (fun _ => Prop) True (fun p _ ih => @Prod.rec Nat AV (fun _ => Prop) (fun i x => (∃ y,tm.get i = some y ∧ ((WkV y x ∧ Live noL x) ∨ (y = .lst [] k (.ch r) ∧ x = .slc 0 0 k C))) ∧ ih) p) l
theorem TmC.mem {r k C:Nat} {tm:Tr AV}:∀ {l:List (Nat × AV)},TmC r k C tm l → ∀ j a,(j,a) ∈ l → ∃ y,tm.get j = some y ∧ ((WkV y a ∧ Live noL a) ∨ (y = .lst [] k (.ch r) ∧ a = .slc 0 0 k C))
 |(i,x) :: l,h,j,a,hm => by
  rcases List.mem_cons.1 hm with e | hm
  ·cases e;exact h.1
  ·exact TmC.mem h.2 j a hm
section
variable {tm:Tr AV} {rd:Bool} {W:List Nat} {s':AS} {ut:Nat → List (Nat × AV)} {xs:List AV} {k sz r:Nat} {ty:TypeId} {t:Tr AV} {g g0:Gh} {B:Nat} {w w0:World} {H H0:AH}
end
theorem FzV.ptr {o:Nat → AObj} {i n:Nat} {t:Tr AV} {ty:TypeId} {xs:List AV} (ho:o i = .cells t n ty) (hl:xs.length = n) (hx:∀ j,j < n → t.get j = xs[j]?) (hn:Lives noL xs):FzV o (.ptr i 0) (.lptr xs 0) :=by
 intro g B w H u hH hr hu
 subst hH
 simp only [VRel] at hu ⊢
 refine ⟨g.ob i,0,by simpa using hu,?_,?_⟩
 ·rw [frz_im hr ho,hl];omega
 ·refine LRel.of_get xs 0 fun j a hj => ?_
  have hjn:j < n :=by
   rw [← hl]
   exact (List.getElem?_eq_some_iff.1 hj).1
  obtain ⟨a',v,h1,h2,h3,_⟩ :=hr.cellAt ho hjn
  rw [hx j hjn,hj] at h1
  cases h1
  have hln:Live noL a :=Lives.mem xs a hn (List.mem_of_getElem? hj)
  exact ⟨v,by rw [Nat.zero_add];exact h2,FzV.no (o :=H.o) hln g B w H v rfl hr h3⟩
end
end Go.Abs

/-! Regions whose order is drawn, and whose last operation is a call that panics. -/
namespace Go.Abs
open Go
noncomputable section
section
variable {P:Program} {T:Tr TypeInfo} {F:Tr Func} {X:XT} {B:Nat} {ops:Array Oper} {base:Nat}
end
end
end Go.Abs

/-! Closures that append to a list that is the third cell of a struct that they have captured: as HFunL; other objects may be known less at the end. -/
namespace Go.Abs
open Go
noncomputable section
theorem CSem.wkO {P:Program} {B:Nat} {f:FuncId} {args:List AV} {H H1:AH} {e:AEnd} {o:Nat → AObj} (h:CSem P B f args H e H1) (ho:∀ i,OWk (H1.o i) (o i)) {K:Nat} (hb:∀ i,OBd (max (i + 1) K) (o i)):CSem P B f args H e ⟨H1.n,K,o⟩ :=by
 intro g vs cs w hr hv hl
 obtain ⟨g',fr',w',h1,h2,h3,h4⟩ :=h g vs cs w hr hv hl
 have hL:AH.L ⟨H1.n,K,o⟩ = H1.L :=by
  funext i
  unfold AH.L
  rw [ne_eq,ne_eq,(ho i).hole]
 have rel :=h1.rel
 refine ⟨g',fr',w',⟨?_,h1.ext,h1.below,fun i hi => hL ▸ h1.L i hi,h1.frame,?_⟩,h2,h3,by rw [hL];exact h4⟩
 ·exact { wf :=fun i hi => (ho i).hole.1 (rel.wf i hi),ge :=fun i hi => by rw [(ho i).bk];exact rel.ge i fun e => hi ((ho i).hole.1 e),inj :=fun i j hi hj k => by rw [(ho i).bk,(ho j).bk] at k;exact rel.inj i j (fun e => hi ((ho i).hole.1 e)) (fun e => hj ((ho j).hole.1 e)) k,rel :=fun i => (ho i).rel (rel.rel i),live :=fun i => hL ▸ (ho i).live (rel.live i),kp :=hb,imz :=rel.imz,hB :=rel.hB,gl :=rel.gl }
 ·intro k hk
  obtain ⟨i,hi,ei⟩ :=hk
  rw [(ho i).bk] at ei
  exact h1.own k ⟨i,fun e => hi ((ho i).hole.1 e),ei⟩
def gcell (w t:AV) (ty:TypeId) (c:Nat):LState → AObj
 |none => .cells (.node w (.node t .nil .nil) (.node .nils .nil .nil)) 3 ty
 |some (xs,k) => .cells (.node w (.node t .nil .nil) (.node (.lst xs k (.ch c)) .nil .nil)) 3 ty
theorem gcell_ne {w t ty c} (L:LState):gcell w t ty c L ≠ .hole :=by
 rcases L with _ | ⟨xs,k⟩ <;> exact fun e => nomatch e
theorem gcell_bk (g:Gh) {w t ty c i} (L:LState):g.bk (gcell w t ty c L) i = g.ob i :=by
 rcases L with _ | ⟨xs,k⟩ <;> rfl
theorem node3_get {w t x y:AV} {j:Nat} (h:(Tr.node w (.node t .nil .nil) (.node x .nil .nil)).get j = some y):(j = 0 ∧ y = w) ∨ (j = 1 ∧ y = t) ∨ (j = 2 ∧ y = x) :=by
 rcases j with _ | _ | _ | j
 ·exact .inl ⟨rfl,(Option.some.inj h).symm⟩
 ·exact .inr (.inl ⟨rfl,(Option.some.inj h).symm⟩)
 ·exact .inr (.inr ⟨rfl,(Option.some.inj h).symm⟩)
 ·exfalso
  revert h
  have one:∀ (z:AV) (i:Nat),i ≠ 0 → (Tr.node z .nil .nil).get i = none :=fun z i hi => by
   rcases hx:(Tr.node z .nil .nil).get i with _ | y
   ·rfl
   ·exfalso
    obtain ⟨i,rfl⟩ : ∃ k,i = k + 1 :=⟨i - 1,by omega⟩
    revert hx
    by_cases hj:i % 2 = 0
    ·rw [Tr.get_node_even _ _ _ hj]
     show Tr.get .nil _ = _ → False
     rw [Tr.get_nil];exact fun h => nomatch h
    ·rw [Tr.get_node_odd _ _ _ hj]
     show Tr.get .nil _ = _ → False
     rw [Tr.get_nil];exact fun h => nomatch h
  by_cases hj:(j + 2) % 2 = 0
  ·rw [Tr.get_node_even _ _ _ hj,one _ _ (by omega)];exact fun h => nomatch h
  ·rw [Tr.get_node_odd _ _ _ hj,one _ _ (by omega)];exact fun h => nomatch h
def HFunG (P:Program) (w t:AV) (f:FuncId) (args:List AV) (b:Nat → AObj) (m a:Nat) (ty:TypeId) (sz:Nat) (e:TypeId) (L L':LState) (v:AV):Prop :=
 ∀ B H c,m ≤ c → (∀ i,i < m → i ≠ a → H.o i = b i) → H.o a = gcell w t ty c L → H.o c = lchn sz e L → CSem P B f args H (.ret v) (H.lput a c (gcell w t ty c L') (lchn sz e L'))
theorem orel_gcell {g g':Gh} {w w':World} {S:Nat → Prop} (hx:Ext S g w g' w') {p t:AV} (lp:Live noL p) (lt:Live noL t) {ty c c' i} {L:LState} (hl:∀ xs k,L = some (xs,k) → Lives S xs) (e1:L ≠ none → g'.cn c' = g.cn c ∧ g'.cb c' = g.cb c ∧ g'.cc c' = g.cc c) (hob:g'.ob i = g.ob i) (hh:w'.heap[g.ob i]? = w.heap[g.ob i]?) (hi:g'.im (g.ob i) = g.im (g.ob i)) (h:ORel g w i (gcell p t ty c L)):ORel g' w' i (gcell p t ty c' L) :=by
 have ext:∀ (x:AV) u,Live noL x → VRel g w x u → VRel g' w' x u :=fun x u lx hu => VRel.ext hx x u (lx.mono fun _ h => h.elim) hu
 rcases L with _ | ⟨xs,k⟩
 ·obtain ⟨arr,h1,h2,h3,h4⟩ :=h
  refine ⟨arr,by unfold CellsAt;rw [hob,hh];exact h1,by rw [hob,hi];exact h2,h3,fun j hj => ?_⟩
  obtain ⟨a,v,k1,k2,k3⟩ :=h4 j hj
  refine ⟨a,v,k1,k2,?_⟩
  rcases node3_get k1 with ⟨_,rfl⟩ | ⟨_,rfl⟩ | ⟨_,rfl⟩
  ·exact ext _ _ lp k3
  ·exact ext _ _ lt k3
  ·exact ext _ _ trivial k3
 ·obtain ⟨arr,h1,h2,h3,h4⟩ :=h
  refine ⟨arr,by unfold CellsAt;rw [hob,hh];exact h1,by rw [hob,hi];exact h2,h3,fun j hj => ?_⟩
  obtain ⟨a,v,k1,k2,k3⟩ :=h4 j hj
  obtain ⟨q1,q2,q3⟩ :=e1 (fun e => nomatch e)
  rcases node3_get k1 with ⟨rfl,rfl⟩ | ⟨rfl,rfl⟩ | ⟨rfl,rfl⟩
  ·exact ⟨_,v,rfl,k2,ext _ _ lp k3⟩
  ·exact ⟨_,v,rfl,k2,ext _ _ lt k3⟩
  ·exact ⟨_,v,rfl,k2,vrel_ch hx (hl xs k rfl) q1 q2 q3 k3⟩
theorem hfunG_of {P:Program} {w0 t0:AV} (lp:Live noL w0) (lt:Live noL t0) {f:FuncId} {args:List AV} {b:Nat → AObj} {m a:Nat} {ty:TypeId} {sz:Nat} {e:TypeId} {L L':LState} {v:AV} (ham:a < m) (ha:bdl args ≤ m) (hb:∀ i,i < m → i ≠ a → OBd m (b i)) (hL:LBd m L) (hL':LBd m L') (hbv:bd v ≤ m) (hmono:L ≠ none → L' ≠ none)
  (h:∀ B (Hc:AH),(Hc.o = fun i => if i = a then gcell w0 t0 ty m L else if i < m then b i else if i = m then lchn sz e L else .hole) → ∃ H1 u c1,m ≤ c1 ∧ (L ≠ none → c1 = m) ∧ (∀ i,i < m → i ≠ a → OWk (H1.o i) (b i)) ∧ H1.o a = gcell w0 t0 ty c1 L' ∧ (L' ≠ none → H1.o c1 = lchn sz e L') ∧ WkV u v ∧ CSem P B f args Hc (.ret u) H1):HFunG P w0 t0 f args b m a ty sz e L L' v :=by
 intro B H c hc hH hHa hHc g vs cs w hr hvs hl
 have lpn:∀ S,Live S w0 :=fun S => lp.mono fun _ h => h.elim
 have ltn:∀ S,Live S t0 :=fun S => lt.mono fun _ h => h.elim
 let gI:Gh :=⟨g.ob,g.im,fun i => if i = m then g.cn c else g.cn i,fun i => if i = m then g.cb c else g.cb i,fun i => if i = m then g.cc c else g.cc i⟩
 let Hc:AH :=⟨m + 1,m + 1,fun i => if i = a then gcell w0 t0 ty m L else if i < m then b i else if i = m then lchn sz e L else .hole⟩
 have ca:Hc.o a = gcell w0 t0 ty m L :=if_pos rfl
 have ci:∀ i,i < m → i ≠ a → Hc.o i = b i :=fun i hi hn => by
  show (if i = a then _ else if i < m then b i else _) = _
  rw [if_neg hn,if_pos hi]
 have cm:Hc.o m = lchn sz e L :=by
  show (if m = a then _ else if m < m then b m else if m = m then _ else _) = _
  rw [if_neg (by omega),if_neg (by omega),if_pos rfl]
 have co:∀ i,m < i → Hc.o i = .hole :=fun i hi => by
  show (if i = a then _ else if i < m then b i else if i = m then _ else _) = _
  rw [if_neg (by omega),if_neg (by omega),if_neg (by omega)]
 have bkI:∀ x i,i ≠ m → gI.bk x i = g.bk x i :=fun x i hi => by cases x <;> first | rfl | exact if_neg hi
 have hx0:Ext (fun i => i < m) g w gI w :=⟨fun _ _ => rfl,fun i hi => by show _ ≤ (if i = m then _ else _);rw [if_neg (Nat.ne_of_lt hi)];exact Nat.le_refl _,fun i hi _ => ⟨if_neg (Nat.ne_of_lt hi),if_neg (Nat.ne_of_lt hi)⟩,fun _ => Nat.le_refl _,fun _ _ _ => rfl⟩
 have eI:gI.cn m = g.cn c ∧ gI.cb m = g.cb c ∧ gI.cc m = g.cc c :=⟨if_pos rfl,if_pos rfl,if_pos rfl⟩
 have le:∀ i,Hc.o i ≠ .hole → i ≤ m :=fun i hi => by
  apply Classical.byContradiction
  intro k
  exact hi (co i (by omega))
 -- each object of the smaller heap is one of the greater one
 have key:∀ i,Hc.o i ≠ .hole → H.o (if i = m then c else i) ≠ .hole ∧ gI.bk (Hc.o i) i = g.bk (H.o (if i = m then c else i)) (if i = m then c else i) :=fun i hi => by
  by_cases e1:i = m
  ·subst e1
   rw [if_pos rfl]
   rw [cm] at hi ⊢
   rw [hHc]
   refine ⟨hi,?_⟩
   rw [lchn_bk _ hi,lchn_bk _ hi];exact eI.2.1
  ·rw [if_neg e1]
   by_cases e2:i = a
   ·subst e2
    rw [ca,hHa,gcell_bk,gcell_bk]
    exact ⟨gcell_ne L,rfl⟩
   ·have hlt :=le i hi
    rw [ci i (by omega) e2] at hi ⊢
    rw [hH i (by omega) e2]
    exact ⟨hi,bkI _ _ e1⟩
 have nh:∀ i,i < m → H.o i ≠ .hole → Hc.o i ≠ .hole :=fun i hi k => by
  by_cases e2:i = a
  ·subst e2;rw [ca];exact gcell_ne L
  ·rw [ci i hi e2,← hH i hi e2];exact k
 have lxs:∀ xs k,L = some (xs,k) → Lives H.L xs ∧ bdl xs ≤ m :=fun xs k e1 => by
  have h1 :=hr.live a
  rw [hHa,e1] at h1
  have h2:Live H.L (.lst xs k (.ch c)) :=h1 2 _ rfl
  rw [e1] at hL
  exact ⟨h2.1,hL⟩
 have hrc:HRel gI B w Hc :=by
  refine ⟨fun i hi => co i hi,fun i hi => ?_,fun i j hi hj k => ?_,fun i => ?_,fun i => ?_,fun i => ?_,hr.imz,hr.hB,hr.gl⟩
  ·have :=key i hi
   rw [this.2];exact hr.ge _ this.1
  ·have k1 :=key i hi
   have k2 :=key j hj
   have l1 :=le i hi
   have l2 :=le j hj
   rw [k1.2,k2.2] at k
   have :=hr.inj _ _ k1.1 k2.1 k
   split at this <;> split at this <;> omega
  ·by_cases e2:i = a
   ·subst e2
    rw [ca]
    have h1 :=hr.rel i
    rw [hHa] at h1
    exact orel_gcell hx0 lp lt (fun xs k e1 => Lives.mono (fun _ h => h.2) xs (Lives.below xs (lxs xs k e1).1 (lxs xs k e1).2)) (fun _ => eI) rfl rfl rfl h1
   ·by_cases e1:i < m
    ·rw [ci i e1 e2]
     have h1 :=hr.rel i
     have h2 :=hr.live i
     rw [hH i e1 e2] at h1 h2
     exact h1.ext hx0 (OLive.mono (fun _ h => h.2) (OLive.below h2 (hb i e1 e2))) e1 rfl rfl (if_neg (Nat.ne_of_lt e1))
    ·by_cases e3:i = m
     ·subst e3
      rw [cm]
      have h1 :=hr.rel c
      rw [hHc] at h1
      exact orel_lchn (fun _ => eI) rfl rfl h1
     ·rw [co i (by omega)];trivial
  ·by_cases e2:i = a
   ·subst e2
    rw [ca]
    rcases hLe:L with _ | ⟨xs,k⟩
    ·intro j x hx
     rcases node3_get hx with ⟨_,rfl⟩ | ⟨_,rfl⟩ | ⟨_,rfl⟩
     ·exact lpn _
     ·exact ltn _
     ·trivial
    ·intro j x hx
     have h1 :=lxs xs k hLe
     rcases node3_get hx with ⟨_,rfl⟩ | ⟨_,rfl⟩ | ⟨_,rfl⟩
     ·exact lpn _
     ·exact ltn _
     refine ⟨Lives.mono (fun j hj => nh j hj.2 hj.1) xs (Lives.below xs h1.1 h1.2),fun c' e => ?_⟩
     cases e
     show Hc.o m ≠ .hole
     rw [cm,hLe];exact fun e => nomatch e
   ·by_cases e1:i < m
    ·have h2 :=hr.live i
     rw [hH i e1 e2] at h2
     rw [ci i e1 e2]
     exact OLive.mono (fun j hj => nh j hj.2 hj.1) (OLive.below h2 (hb i e1 e2))
    ·by_cases e3:i = m
     ·subst e3
      rw [cm]
      rcases L with _ | ⟨xs,k⟩ <;> trivial
     ·rw [co i (by omega)];trivial
  ·show OBd (max (i + 1) (m + 1)) _
   by_cases e2:i = a
   ·subst e2
    rw [ca]
    rcases L with _ | ⟨xs,k⟩
    ·intro j x hx
     rcases node3_get hx with ⟨_,rfl⟩ | ⟨_,rfl⟩ | ⟨_,rfl⟩
     ·exact Nat.le_trans (Nat.le_of_eq (noL_bd0 _ lp)) (Nat.zero_le _)
     ·exact Nat.le_trans (Nat.le_of_eq (noL_bd0 _ lt)) (Nat.zero_le _)
     ·exact Nat.zero_le _
    ·intro j x hx
     have hL:bdl xs ≤ m :=hL
     rcases node3_get hx with ⟨_,rfl⟩ | ⟨_,rfl⟩ | ⟨_,rfl⟩
     ·exact Nat.le_trans (Nat.le_of_eq (noL_bd0 _ lp)) (Nat.zero_le _)
     ·exact Nat.le_trans (Nat.le_of_eq (noL_bd0 _ lt)) (Nat.zero_le _)
     exact Nat.max_le.2 ⟨by omega,by omega⟩
   ·by_cases e1:i < m
    ·rw [ci i e1 e2];exact (hb i e1 e2).mono (by omega)
    ·by_cases e3:i = m
     ·subst e3
      rw [cm]
      rcases L with _ | ⟨xs,k⟩ <;> trivial
     ·rw [co i (by omega)];trivial
 have hlm:Lives (fun i => H.L i ∧ i < m) args :=Lives.below args hl ha
 have hlc:Lives Hc.L args :=Lives.mono (fun i hi => nh i hi.2 hi.1) args hlm
 have hvI:VRels gI w args vs.toList :=VRels.ext hx0 args _ (Lives.mono (fun _ h => h.2) args hlm) hvs
 obtain ⟨H0,u,c1,hc1,hcm,h1,h1a,h1c,hw,hcs⟩ :=h B Hc rfl
 obtain ⟨H1,e1⟩ : ∃ H1:AH,H1 = ⟨H0.n,max m H0.keep,fun i => if i < m then (if i = a then H0.o i else b i) else H0.o i⟩ :=⟨_,rfl⟩
 have hcs:CSem P B f args Hc (.ret u) H1 :=by
  rw [e1]
  refine hcs.wkO (fun i => ?_) fun i => ?_
  ·by_cases k:i < m
   ·by_cases k2:i = a
    ·simp only [if_pos k,if_pos k2];exact .same _
    ·simp only [if_pos k,if_neg k2];exact h1 i k k2
   ·simp only [if_neg k];exact .same _
  ·obtain ⟨g0,_,w0',ho0,_⟩ :=hcs gI vs cs w hrc hvI hlc
   have kp0:OBd (max (i + 1) (max m H0.keep)) (H0.o i) :=(ho0.rel.kp i).mono (by omega)
   by_cases k:i < m
   ·by_cases k2:i = a
    ·simp only [if_pos k,if_pos k2];exact kp0
    ·simp only [if_pos k,if_neg k2];exact (hb i k k2).mono (by omega)
   ·simp only [if_neg k];exact kp0
 have h1:∀ i,i < m → i ≠ a → H1.o i = b i :=fun i hi hn => by rw [e1];simp only [if_pos hi,if_neg hn]
 have h1a:H1.o a = gcell w0 t0 ty c1 L' :=by rw [e1];simp only [if_pos ham,if_true];exact h1a
 have h1c:L' ≠ none → H1.o c1 = lchn sz e L' :=fun z => by rw [e1];simp only [if_neg (show ¬ c1 < m by omega)];exact h1c z
 obtain ⟨g',fr',w',ho1,hs,hf,u',hlv,hvu,hlu⟩ :=hcs gI vs cs w hrc hvI hlc
 let g2:Gh :=⟨fun i => if i < m then g'.ob i else g.ob i,g'.im,fun i => if i < m then g'.cn i else if i = c then g'.cn c1 else g.cn i,fun i => if i < m then g'.cb i else if i = c then g'.cb c1 else g.cb i,fun i => if i < m then g'.cc i else if i = c then g'.cc c1 else g.cc i⟩
 have ncm:¬ c < m :=by omega
 have bk1:∀ x i,i < m → g2.bk x i = g'.bk x i :=fun x i hi => by cases x <;> exact if_pos hi
 have bk2:∀ x i,¬ i < m → i ≠ c → g2.bk x i = g.bk x i :=fun x i hi hn => by
  cases x
  case chain => show (if i < m then _ else if i = c then _ else _) = _;rw [if_neg hi,if_neg hn];rfl
  case mrow => show (if i < m then _ else if i = c then _ else _) = _;rw [if_neg hi,if_neg hn];rfl
  all_goals exact if_neg hi
 have g2c:g2.cn c = g'.cn c1 ∧ g2.cb c = g'.cb c1 ∧ g2.cc c = g'.cc c1 :=by
  refine ⟨?_,?_,?_⟩
  all_goals
   show (if c < m then _ else if c = c then _ else _) = _
   rw [if_neg ncm,if_pos rfl]
 have hx1:Ext (fun i => i < m) g' w' g2 w' :=⟨fun i hi => if_pos hi,fun i hi => by show _ ≤ (if i < m then _ else _);rw [if_pos hi];exact Nat.le_refl _,fun i hi _ => ⟨if_pos hi,if_pos hi⟩,fun _ => Nat.le_refl _,fun _ _ _ => rfl⟩
 have hLm:∀ i,H.L i → i < m → Hc.L i :=fun i hi hlt => nh i hlt hi
 have hLc:H.L c → c1 = m ∧ Hc.L m :=fun hi => by
  have hi:H.o c ≠ .hole :=hi
  rw [hHc] at hi
  refine ⟨hcm (lchn_some.1 hi),?_⟩
  show Hc.o m ≠ .hole
  rw [cm];exact hi
 have hx2:Ext H.L g w g2 w' :=by
  refine ⟨fun i hi => ?_,fun i hi => ?_,fun i hi e => ?_,ho1.ext.im,ho1.ext.cell⟩
  ·show (if i < m then g'.ob i else g.ob i) = _
   by_cases k:i < m
   ·rw [if_pos k];exact ho1.ext.ob i (hLm i hi k)
   ·rw [if_neg k]
  ·show _ ≤ (if i < m then g'.cn i else if i = c then g'.cn c1 else g.cn i)
   by_cases k:i < m
   ·rw [if_pos k]
    have :=ho1.ext.cn i (hLm i hi k)
    have e:gI.cn i = g.cn i :=if_neg (Nat.ne_of_lt k)
    rwa [e] at this
   ·rw [if_neg k]
    by_cases k2:i = c
    ·subst k2
     rw [if_pos rfl,(hLc hi).1]
     have :=ho1.ext.cn m (hLc hi).2
     rwa [eI.1] at this
    ·rw [if_neg k2];exact Nat.le_refl _
  ·have e:(if i < m then g'.cn i else if i = c then g'.cn c1 else g.cn i) = g.cn i :=e
   show (if i < m then g'.cb i else if i = c then g'.cb c1 else g.cb i) = _ ∧ (if i < m then g'.cc i else if i = c then g'.cc c1 else g.cc i) = _
   by_cases k:i < m
   ·rw [if_pos k] at e
    rw [if_pos k,if_pos k]
    have e1:gI.cn i = g.cn i :=if_neg (Nat.ne_of_lt k)
    have :=ho1.ext.cb i (hLm i hi k) (by rw [e1];exact e)
    have e2:gI.cb i = g.cb i :=if_neg (Nat.ne_of_lt k)
    have e3:gI.cc i = g.cc i :=if_neg (Nat.ne_of_lt k)
    rw [e2,e3] at this
    exact this
   ·rw [if_neg k] at e
    rw [if_neg k,if_neg k]
    by_cases k2:i = c
    ·subst k2
     rw [if_pos rfl,(hLc hi).1] at e
     rw [if_pos rfl,if_pos rfl,(hLc hi).1]
     have :=ho1.ext.cb m (hLc hi).2 (by rw [eI.1];exact e)
     rw [eI.2.1,eI.2.2] at this
     exact this
    ·rw [if_neg k2,if_neg k2];exact ⟨rfl,rfl⟩
 let H2:AH :=H.lput a c (gcell w0 t0 ty c L') (lchn sz e L')
 have oa:H2.o a = gcell w0 t0 ty c L' :=if_pos rfl
 have nca:c ≠ a :=by omega
 have oc:H2.o c = lchn sz e L' :=by
  show (if c = a then _ else if c = c then _ else _) = _
  rw [if_neg nca,if_pos rfl]
 have oo:∀ i,i ≠ a → i ≠ c → H2.o i = H.o i :=fun i h1 h2 => by
  show (if i = a then _ else if i = c then _ else _) = _
  rw [if_neg h1,if_neg h2]
 -- the objects of the new heap: those that the call has looked at, and the others
 have keyA:∀ i,i < m ∨ i = c → H2.o i ≠ .hole → H1.o (if i = c then c1 else i) ≠ .hole ∧ g2.bk (H2.o i) i = g'.bk (H1.o (if i = c then c1 else i)) (if i = c then c1 else i) :=fun i hi hn => by
  by_cases e1:i = c
  ·subst e1
   rw [if_pos rfl]
   rw [oc] at hn ⊢
   rw [h1c (lchn_some.1 hn)]
   refine ⟨hn,?_⟩
   rw [lchn_bk _ hn,lchn_bk _ hn];exact g2c.2.1
  ·rw [if_neg e1]
   have hlt:i < m :=hi.resolve_right e1
   by_cases e2:i = a
   ·subst e2
    rw [oa,h1a,gcell_bk,gcell_bk]
    exact ⟨gcell_ne L',if_pos hlt⟩
   ·rw [oo i e2 e1,hH i hlt e2] at hn ⊢
    rw [h1 i hlt e2]
    exact ⟨hn,bk1 _ _ hlt⟩
 have keyB:∀ i,¬ (i < m ∨ i = c) → H2.o i ≠ .hole → H.o i ≠ .hole ∧ g2.bk (H2.o i) i = g.bk (H.o i) i :=fun i hi hn => by
  rw [oo i (by omega) (by omega)] at hn ⊢
  exact ⟨hn,bk2 _ _ (by omega) (by omega)⟩
 have notOwned:∀ i,¬ (i < m ∨ i = c) → H.o i ≠ .hole → ¬ Owned gI Hc (g.bk (H.o i) i) :=fun i hi he ⟨j,hj,ej⟩ => by
  have k :=key j hj
  have l :=le j hj
  rw [k.2] at ej
  have :=hr.inj _ _ k.1 he ej
  split at this <;> omega
 have ownI:∀ k,Owned gI Hc k → Owned g H k :=fun k ⟨j,hj,ej⟩ => by
  have q :=key j hj
  rw [q.2] at ej
  exact ⟨_,q.1,ej⟩
 have lift:∀ i,H1.L i ∧ i < m → H2.L i :=fun i hi => by
  show H2.o i ≠ .hole
  by_cases e2:i = a
  ·subst e2;rw [oa];exact gcell_ne L'
  ·rw [oo i e2 (by omega),hH i hi.2 e2,← h1 i hi.2 e2];exact hi.1
 have hL2:∀ i,H.L i → H2.L i :=fun i hi => by
  show H2.o i ≠ .hole
  by_cases e2:i = a
  ·subst e2;rw [oa];exact gcell_ne L'
  ·by_cases e1:i = c
   ·subst e1
    rw [oc]
    have hi:H.o i ≠ .hole :=hi
    rw [hHc] at hi
    exact lchn_some.2 (hmono (lchn_some.1 hi))
   ·rw [oo i e2 e1];exact hi
 have lxs':∀ xs k,L' = some (xs,k) → Lives (fun i => H1.L i ∧ i < m) xs :=fun xs k e1 => by
  have q1 :=ho1.rel.live a
  rw [h1a,e1] at q1
  have q2:Live H1.L (.lst xs k (.ch c1)) :=q1 2 _ rfl
  rw [e1] at hL'
  exact Lives.below xs q2.1 hL'
 have hrel:HRel g2 B w' H2 :=by
  refine ⟨fun i hi => ?_,fun i hi => ?_,fun i j hi hj k => ?_,fun i => ?_,fun i => ?_,fun i => ?_,ho1.rel.imz,ho1.rel.hB,ho1.rel.gl⟩
  ·have hi:max (c + 1) H.n ≤ i :=hi
   rw [oo i (by omega) (by omega)];exact hr.wf i (by omega)
  ·by_cases k:i < m ∨ i = c
   ·have q :=keyA i k hi
    rw [q.2];exact ho1.rel.ge _ q.1
   ·have q :=keyB i k hi
    rw [q.2]
    have :=hr.ge _ q.1
    exact ⟨this.1,Nat.lt_of_lt_of_le this.2 ho1.below.size⟩
  ·have mixed:∀ i j,(i < m ∨ i = c) → ¬ (j < m ∨ j = c) → H2.o i ≠ .hole → H2.o j ≠ .hole → g2.bk (H2.o i) i = g2.bk (H2.o j) j → False :=fun i j ki kj hi hj e => by
    have q1 :=keyA i ki hi
    have q2 :=keyB j kj hj
    rw [q1.2,q2.2] at e
    have hlt :=(hr.ge j q2.1).2
    rcases ho1.own (g.bk (H.o j) j) ⟨_,q1.1,e⟩ with h | h
    ·exact notOwned j kj q2.1 h
    ·omega
   by_cases ki:i < m ∨ i = c
   ·by_cases kj:j < m ∨ j = c
    ·have q1 :=keyA i ki hi
     have q2 :=keyA j kj hj
     rw [q1.2,q2.2] at k
     have :=ho1.rel.inj _ _ q1.1 q2.1 k
     split at this <;> split at this <;> omega
    ·exact (mixed i j ki kj hi hj k).elim
   ·by_cases kj:j < m ∨ j = c
    ·exact (mixed j i kj ki hj hi k.symm).elim
    ·have q1 :=keyB i ki hi
     have q2 :=keyB j kj hj
     rw [q1.2,q2.2] at k
     exact hr.inj i j q1.1 q2.1 k
  ·by_cases e2:i = a
   ·subst e2
    rw [oa]
    have q :=ho1.rel.rel i
    rw [h1a] at q
    exact orel_gcell hx1 lp lt (fun xs k e1 => Lives.mono (fun _ h => h.2) xs (lxs' xs k e1)) (fun _ => g2c) (if_pos ham) rfl rfl q
   ·by_cases e1:i = c
    ·subst e1
     rw [oc]
     by_cases e3:L' = none
     ·rw [e3];trivial
     ·have q :=ho1.rel.rel c1
      rw [h1c e3] at q
      exact orel_lchn (fun _ => g2c) rfl rfl q
    ·by_cases k:i < m
     ·rw [oo i e2 e1,hH i k e2]
      have q :=ho1.rel.rel i
      have q1 :=ho1.rel.live i
      rw [h1 i k e2] at q q1
      exact q.ext hx1 (OLive.mono (fun _ h => h.2) (OLive.below q1 (hb i k e2))) k rfl rfl (if_pos k)
     ·rw [oo i e2 e1]
      by_cases e3:H.o i = .hole
      ·rw [e3];trivial
      ·have hfr :=ho1.frame _ (hr.ge i e3).2 (notOwned i (by omega) e3)
       exact (hr.rel i).ext hx2 (hr.live i) e3 hfr.1 hfr.2 (by
        show (if i < m then _ else if i = c then _ else _) = _
        rw [if_neg k,if_neg e1])
  ·by_cases e2:i = a
   ·subst e2
    rw [oa]
    rcases hLe:L' with _ | ⟨xs,k⟩
    ·intro j x hx
     rcases node3_get hx with ⟨_,rfl⟩ | ⟨_,rfl⟩ | ⟨_,rfl⟩
     ·exact lpn _
     ·exact ltn _
     ·trivial
    ·intro j x hx
     rcases node3_get hx with ⟨_,rfl⟩ | ⟨_,rfl⟩ | ⟨_,rfl⟩
     ·exact lpn _
     ·exact ltn _
     refine ⟨Lives.mono lift xs (lxs' xs k hLe),fun c' e => ?_⟩
     cases e
     show H2.o c ≠ .hole
     rw [oc,hLe];exact fun e => nomatch e
   ·by_cases e1:i = c
    ·subst e1
     rw [oc]
     rcases L' with _ | ⟨xs,k⟩ <;> trivial
    ·by_cases k:i < m
     ·rw [oo i e2 e1,hH i k e2]
      have q1 :=ho1.rel.live i
      rw [h1 i k e2] at q1
      exact OLive.mono lift (OLive.below q1 (hb i k e2))
     ·rw [oo i e2 e1];exact OLive.mono hL2 (hr.live i)
  ·show OBd (max (i + 1) (max (c + 1) H.keep)) _
   by_cases e2:i = a
   ·subst e2
    rw [oa]
    rcases L' with _ | ⟨xs,k⟩
    ·intro j x hx
     rcases node3_get hx with ⟨_,rfl⟩ | ⟨_,rfl⟩ | ⟨_,rfl⟩
     ·exact Nat.le_trans (Nat.le_of_eq (noL_bd0 _ lp)) (Nat.zero_le _)
     ·exact Nat.le_trans (Nat.le_of_eq (noL_bd0 _ lt)) (Nat.zero_le _)
     ·exact Nat.zero_le _
    ·intro j x hx
     have hL':bdl xs ≤ m :=hL'
     rcases node3_get hx with ⟨_,rfl⟩ | ⟨_,rfl⟩ | ⟨_,rfl⟩
     ·exact Nat.le_trans (Nat.le_of_eq (noL_bd0 _ lp)) (Nat.zero_le _)
     ·exact Nat.le_trans (Nat.le_of_eq (noL_bd0 _ lt)) (Nat.zero_le _)
     exact Nat.max_le.2 ⟨by omega,by omega⟩
   ·by_cases e1:i = c
    ·subst e1
     rw [oc]
     rcases L' with _ | ⟨xs,k⟩ <;> trivial
    ·rw [oo i e2 e1]
     by_cases k:i < m
     ·rw [hH i k e2];exact (hb i k e2).mono (by omega)
     ·exact (hr.kp i).mono (by omega)
 refine ⟨g2,fr',w',⟨hrel,hx2,ho1.below,hL2,fun k hk hn => ?_,fun k ⟨i,hi,ek⟩ => ?_⟩,hs,hf,u',hlv,?_,?_⟩
 ·exact ho1.frame k hk fun q => hn (ownI k q)
 ·by_cases l:i < m ∨ i = c
  ·have q :=keyA i l hi
   rw [q.2] at ek
   rcases ho1.own k ⟨_,q.1,ek⟩ with h | h
   ·exact .inl (ownI k h)
   ·exact .inr h
  ·have q :=keyB i l hi
   rw [q.2] at ek
   exact .inl ⟨i,q.1,ek⟩
 ·exact VRel.ext hx1 v u' (Live.mono (fun _ h => h.2) v (Live.below v (hw.lv _ hlu) hbv)) (hw.wk _ _ _ hvu)
 ·exact Live.mono lift v (Live.below v (hw.lv _ hlu) hbv)
def ObWkA (b:Nat → AObj) (h:Tr AObj) (a:Nat) (k:Nat):Prop :=@Nat.rec (fun _ => Prop) True (fun i ih => (i = a ∨ OWk (hv h i) (b i)) ∧ ih) k
theorem ObWkA.lt {b:Nat → AObj} {h:Tr AObj} {a:Nat}:∀ {k:Nat},ObWkA b h a k → ∀ i,i < k → i ≠ a → OWk (hv h i) (b i)
 |k + 1,hk,i,hi,hn => by
  by_cases e:i = k
  ·subst e;exact hk.1.resolve_left hn
  ·exact ObWkA.lt hk.2 i (by omega) hn
theorem hfunG_sym {P:Program} {w0 t0:AV} (lp:Live noL w0) (lt:Live noL t0) {E:EqT → PcT → Env} {q0:EqT} (hE:(E q0 (symPc P)).Ok) (hP:(E q0 (symPc P)).P = P) {f:FuncId} {args:List AV} {v:AV} {h:Tr AObj} {b:Nat → AObj} {m a n:Nat} {ty:TypeId} {sz:Nat} {e:TypeId} {L L':LState} (hend:HEnd h n) (hn:n = m + L.isSome.toNat) (ham:a < m) (ha:bdl args ≤ m) (hbv:bd v ≤ m) (hb:ObBdA m b a m) (hL:LBd m L) (hL':LBd m L') (hmono:L ≠ none → L' ≠ none)
  (hq:ObEqA b h a m) (hha:hv h a = gcell w0 t0 ty m L) (hhc:hv h m = lchn sz e L)
  (run:∀ S q pc,S = symSub P → q = q0 → pc = symPc P → (E q pc).Ok → exFn (E q pc) (step (E q pc) S) f .normal args .no h n fun r _ h1 _ _ => ∃ u c1,r = .ret u ∧ WkV u v ∧ m ≤ c1 ∧ (L ≠ none → c1 = m) ∧ ObWkA b h1 a m ∧ hv h1 a = gcell w0 t0 ty c1 L' ∧ (L' ≠ none → hv h1 c1 = lchn sz e L')):HFunG P w0 t0 f args b m a ty sz e L L' v :=by
 have hs :=step_ok hE
 obtain ⟨r,pm',h1,n1,_,⟨u,c1,rfl,hw,k1,k2,k3,k4,k5⟩,_,_,h3⟩ :=exFn_ok hE (S :=step (E q0 (symPc P)) (symSub P)) (by rw [hP] at hs;rw [hP];exact hs) f .normal args .no h n _ (run _ _ _ rfl rfl rfl hE) hend
 refine hfunG_of lp lt ham ha hb.lt hL hL' hbv hmono fun B Hc hc => ?_
 have hch:Hc.o = hv h :=by
  rw [hc];funext i
  by_cases e1:i = a
  ·subst e1;rw [if_pos rfl,hha]
  ·rw [if_neg e1]
   by_cases e2:i < m
   ·rw [if_pos e2,hq.lt i e2 e1]
   ·rw [if_neg e2]
    by_cases e3:i = m
    ·subst e3;rw [if_pos rfl,hhc]
    ·rw [if_neg e3]
     refine (hend.hole ?_).symm
     rw [hn]
     have:L.isSome.toNat ≤ 1 :=by cases L <;> exact Nat.le_of_ble_eq_true rfl
     omega
 obtain ⟨H1,q1,q2⟩ :=h3 B Hc hch
 rw [hP] at q2
 exact ⟨H1,u,c1,k1,k2,fun i hi hn => by rw [q1];exact k3.lt i hi hn,by rw [q1];exact k4,fun hL => by rw [q1];exact k5 hL,hw,CSem.of_F q2⟩
section
variable {P:Program} {w0 t0:AV} {S:Sub} (hS:S = symSub P) {f:FuncId} {args:List AV} {h:Tr AObj} {n:Nat} {K:AEnd → Tr AObj → Nat → List Nat → Prop} {b:Nat → AObj} {m a:Nat} {ty:TypeId} {sz:Nat} {e:TypeId} {v:AV}
include hS
theorem sym_hcallG0 (hf:HFunG P w0 t0 f args b m a ty sz e none none v) (hm:m ≤ n) (he:ObEqA b h a m) (ha:hv h a = gcell w0 t0 ty 0 none) (hk:K (.ret v) h n []):S.call f args h n K :=by
 subst hS
 intro hend
 refine ⟨.ret v,h,n,[],hk,hend,fun _ _ _ => rfl,fun B H hH => ⟨_,?_,hf B H n hm (fun i hi hn => by rw [hH];exact he.lt i hi hn) (by rw [hH];exact ha) (by rw [hH];exact hend.hole (Nat.le_refl _))⟩⟩
 funext i
 show (if i = a then _ else if i = n then _ else H.o i) = _
 by_cases e1:i = a
 ·subst e1;rw [if_pos rfl,ha];rfl
 ·rw [if_neg e1]
  by_cases e2:i = n
  ·subst e2;rw [if_pos rfl,hend.hole (Nat.le_refl _)];rfl
  ·rw [if_neg e2,hH]
theorem sym_hcallG1 {xs:List AV} {k:Nat} (hf:HFunG P w0 t0 f args b m a ty sz e none (some (xs,k)) v) (hm:m ≤ n) (ham:a < m) (he:ObEqA b h a m) (ha:hv h a = gcell w0 t0 ty 0 none) (h1:hv (tput [(a,gcell w0 t0 ty n (some (xs,k)))] h) a = gcell w0 t0 ty n (some (xs,k))) (h2:(tadd (pathOf n) (tput [(a,gcell w0 t0 ty n (some (xs,k)))] h) (.chain k sz e)).get n = some (.chain k sz e))
  (hk:K (.ret v) (tadd (pathOf n) (tput [(a,gcell w0 t0 ty n (some (xs,k)))] h) (.chain k sz e)) (n + 1) [a]):S.call f args h n K :=by
 subst hS
 intro hend
 have hne:∀ x,x ≠ a → hv (tput [(a,gcell w0 t0 ty n (some (xs,k)))] h) x = hv h x :=fun x hx => by unfold hv;rw [tput_ne _ _ _ (by simpa [keysOf] using hx)]
 have hadd:∀ x,x ≠ n → hv (tadd (pathOf n) (tput [(a,gcell w0 t0 ty n (some (xs,k)))] h) (.chain k sz e)) x = hv (tput [(a,gcell w0 t0 ty n (some (xs,k)))] h) x :=fun x hx => by
  unfold hv Tr.get
  rw [tadd_ne _ _ _ fun e => hx (pathOf_inj _ _ e).symm]
 refine ⟨.ret v,_,n + 1,[a],hk,appT_end [.chain k sz e] n _ (tput_end hend),fun x hx hn => ?_,fun B H hH => ⟨_,?_,hf B H n hm (fun i hi hn => by rw [hH];exact he.lt i hi hn) (by rw [hH];exact ha) (by rw [hH];exact hend.hole (Nat.le_refl _))⟩⟩
 ·rw [hadd x (by omega),hne x (by simpa using hn)]
 ·funext i
  show (if i = a then _ else if i = n then _ else H.o i) = _
  by_cases e1:i = a
  ·subst e1;rw [if_pos rfl,hadd i (by omega),h1]
  ·rw [if_neg e1]
   by_cases e2:i = n
   ·subst e2;rw [if_pos rfl];unfold hv;rw [h2];rfl
   ·rw [if_neg e2,hadd i e2,hne i e1,hH]
theorem sym_hcallG2 {xs ys:List AV} {j k:Nat} (hf:HFunG P w0 t0 f args b m a ty sz e (some (xs,j)) (some (ys,k)) v) (c:Nat) (hm:m ≤ c) (he:ObEqA b h a m) (ha:hv h a = gcell w0 t0 ty c (some (xs,j))) (hc:hv h c = .chain j sz e) (h1:hv (tput [(a,gcell w0 t0 ty c (some (ys,k))),(c,.chain k sz e)] h) a = gcell w0 t0 ty c (some (ys,k))) (h2:hv (tput [(a,gcell w0 t0 ty c (some (ys,k))),(c,.chain k sz e)] h) c = .chain k sz e)
  (hk:K (.ret v) (tput [(a,gcell w0 t0 ty c (some (ys,k))),(c,.chain k sz e)] h) n [a,c]):S.call f args h n K :=by
 subst hS
 intro hend
 have hne:∀ x,x ≠ a → x ≠ c → hv (tput [(a,gcell w0 t0 ty c (some (ys,k))),(c,.chain k sz e)] h) x = hv h x :=fun x hx hy => by unfold hv;rw [tput_ne _ _ _ (by simp [keysOf,hx,hy])]
 refine ⟨.ret v,_,n,[a,c],hk,tput_end hend,fun x _ hx => ?_,fun B H hH => ⟨_,?_,hf B H c hm (fun i hi hn => by rw [hH];exact he.lt i hi hn) (by rw [hH];exact ha) (by rw [hH];exact hc)⟩⟩
 ·simp only [List.mem_cons,List.not_mem_nil,or_false,not_or] at hx
  exact hne x hx.1 hx.2
 ·funext i
  show (if i = a then _ else if i = c then _ else H.o i) = _
  by_cases e1:i = a
  ·subst e1;rw [if_pos rfl,h1]
  ·rw [if_neg e1]
   by_cases e2:i = c
   ·subst e2;rw [if_pos rfl,h2];rfl
   ·rw [if_neg e2,hne i e1 e2,hH]
end
end
end Go.Abs

