/-
  Places by numbers that are not closed; cells that nobody writes any more.
-/
import Derived.Test.YtcnidgafdonioaaGreatVU4
namespace Go.Abs
open Go
noncomputable section
theorem path_ex:∀ p:Pa,∃ i,pathOf i = p
 | .e => ⟨0,rfl⟩
 | .l p => by
  obtain ⟨i,h⟩ :=path_ex p
  refine ⟨2 * i + 1,?_⟩
  rw [Tr.pathOf_odd (by omega),show 2 * i / 2 = i by omega,h]
 | .r p => by
  obtain ⟨i,h⟩ :=path_ex p
  refine ⟨2 * i + 1 + 1,?_⟩
  rw [Tr.pathOf_even (by omega),show (2 * i + 1) / 2 = i by omega,h]
theorem bdT_of {n:Nat}:∀ t:Tr AV,(∀ p a,Tr.getP p t = some a → bd a ≤ n) → BdT n t
 | .nil,_ => trivial
 | .node v l r,h => ⟨h .e v rfl,bdT_of l fun p a e => h (.l p) a e,bdT_of r fun p a e => h (.r p) a e⟩
theorem bdT_get {n:Nat} {t:Tr AV} (h:∀ j a,t.get j = some a → bd a ≤ n):BdT n t :=bdT_of t fun p a e => by
 obtain ⟨i,rfl⟩ :=path_ex p
 exact h i a e
def frzG (g:Gh) (H:AH):Gh :=
 { g with im :=fun b => @dite _ (∃ n,∃ i t ty,H.o i = .cells t n ty ∧ g.ob i = b) (Classical.propDecidable _) (fun h => h.choose) (fun _ => g.im b) }
theorem frz_im {g:Gh} {B:Nat} {w:World} {H:AH} (hr:HRel g B w H) {i n:Nat} {t:Tr AV} {ty:TypeId} (ho:H.o i = .cells t n ty):(frzG g H).im (g.ob i) = n :=by
 have hex:∃ n,∃ j t ty,H.o j = .cells t n ty ∧ g.ob j = g.ob i :=⟨n,i,t,ty,ho,rfl⟩
 show @dite _ (∃ n,∃ j t ty,H.o j = .cells t n ty ∧ g.ob j = g.ob i) (Classical.propDecidable _) (fun h => h.choose) (fun _ => g.im (g.ob i)) = n
 rw [dif_pos hex]
 obtain ⟨j,t',ty',h1,h2⟩ :=hex.choose_spec
 have:j = i :=hr.inj j i (by rw [h1];intro h;cases h) (by rw [ho];intro h;cases h) (by rw [h1,ho];exact h2)
 subst this
 rw [ho] at h1
 injection h1 with _ h3 _
 exact h3.symm
theorem frz_or {g:Gh} {H:AH} (b:Nat):(frzG g H).im b = g.im b ∨ ∃ n i t ty,H.o i = .cells t n ty ∧ g.ob i = b :=by
 by_cases h:∃ n,∃ i t ty,H.o i = .cells t n ty ∧ g.ob i = b
 ·exact .inr h
 ·left
  show @dite _ (∃ n,∃ j t ty,H.o j = .cells t n ty ∧ g.ob j = b) (Classical.propDecidable _) (fun h => h.choose) (fun _ => g.im b) = _
  rw [dif_neg h]
theorem frz_le {g:Gh} {B:Nat} {w:World} {H:AH} (hr:HRel g B w H) (b:Nat):g.im b ≤ (frzG g H).im b :=by
 rcases frz_or (g :=g) (H :=H) b with h | ⟨n,i,t,ty,ho,rfl⟩
 ·rw [h];exact Nat.le_refl _
 ·have :=hr.rel i
  rw [ho] at this
  obtain ⟨_,_,h0,_⟩ :=this
  rw [h0];exact Nat.zero_le _
def FzV (o:Nat → AObj) (v v':AV):Prop :=∀ g B w H u,H.o = o → HRel g B w H → VRel g w v u → VRel (frzG g H) w v' u
def FzVs (o:Nat → AObj):List AV → List AV → Prop
 | [],[] => True
 |x :: xs,y :: ys => FzV o x y ∧ FzVs o xs ys
 | _,_ => False
theorem FzV.no {o:Nat → AObj} {v:AV} (h:Live noL v):FzV o v v :=fun _ _ _ _ u _ hr hv =>
 VRel.ext (L :=noL) ⟨fun _ h => h.elim,fun _ h => h.elim,fun _ h => h.elim,frz_le hr,fun _ _ _ => rfl⟩ v u h hv
theorem FzV.wk {o:Nat → AObj} {v v' v'':AV} (h:FzV o v v') (k:Wk v' v''):FzV o v v'' :=fun g B w H u ho hr hv => k _ _ _ (h g B w H u ho hr hv)
theorem FzVs.no {o:Nat → AObj}:∀ {vs:List AV},Lives noL vs → FzVs o vs vs
 | [],_ => trivial
 | _ :: _,h => ⟨.no h.1,FzVs.no h.2⟩
theorem FzVs.len {o:Nat → AObj}:∀ {xs ys:List AV},FzVs o xs ys → xs.length = ys.length
 | [],[],_ => rfl
 | _ :: _,_ :: _,h => by rw [List.length_cons,List.length_cons,FzVs.len h.2]
theorem FzVs.cells {o:Nat → AObj} {g:Gh} {B:Nat} {w:World} {H:AH} (ho:H.o = o) (hr:HRel g B w H):∀ {xs ys:List AV} (b off:Nat),FzVs o xs ys → LRel g w xs b off → LRel (frzG g H) w ys b off
 | [],[],_,_,_,_ => trivial
 | _ :: _,_ :: _,b,off,k,h => by
  obtain ⟨⟨u,hu,hv⟩,hs⟩ :=h
  exact ⟨⟨u,hu,k.1 g B w H u ho hr hv⟩,FzVs.cells ho hr b (off + 1) k.2 hs⟩
theorem FzVs.vals {o:Nat → AObj} {g:Gh} {B:Nat} {w:World} {H:AH} (ho:H.o = o) (hr:HRel g B w H):∀ {xs ys:List AV} (vs:List Value),FzVs o xs ys → VRels g w xs vs → VRels (frzG g H) w ys vs
 | [],[],_,_,h => h
 | _ :: _,_ :: _,vs,k,h => by
  obtain ⟨u,us,e,hv,hs⟩ :=h
  exact ⟨u,us,e,k.1 g B w H u ho hr hv,FzVs.vals ho hr us k.2 hs⟩
theorem FzV.lst {o:Nat → AObj} {xs ys:List AV} (h:FzVs o xs ys) (n:Nat) (own:Own):FzV o (.lst xs n own) (.lst ys n .no) :=by
 intro g B w H u ho hr hu
 simp only [VRel] at hu ⊢
 obtain ⟨b,off,cap,h1,h2,h3,h4,_⟩ :=hu
 exact ⟨b,off,cap,h1,h2,by rw [← h.len];exact Nat.le_trans h3 (frz_le hr b),h.cells ho hr b off h4,trivial⟩
theorem FzV.agg {o:Nat → AObj} {xs ys:List AV} (h:FzVs o xs ys):FzV o (.agg xs) (.agg ys) :=by
 intro g B w H u ho hr hu
 simp only [VRel] at hu ⊢
 obtain ⟨vs,h1,h2⟩ :=hu
 exact ⟨vs,h1,h.vals ho hr _ h2⟩
theorem FzV.tup {o:Nat → AObj} {xs ys:List AV} (h:FzVs o xs ys):FzV o (.tup xs) (.tup ys) :=by
 intro g B w H u ho hr hu
 simp only [VRel] at hu ⊢
 obtain ⟨vs,h1,h2⟩ :=hu
 exact ⟨vs,h1,h.vals ho hr _ h2⟩
theorem FzV.slcN {o:Nat → AObj} {i n m cap:Nat} {t:Tr AV} {ty:TypeId} {xs:List AV} (ho:o i = .cells t n ty) (hl:xs.length = n) (hx:∀ j,j < n → t.get j = xs[j]?) (hn:Lives noL xs):FzV o (.slc i 0 m cap) (.lst xs m .no) :=by
 intro g B w H u hH hr hu
 subst hH
 simp only [VRel] at hu ⊢
 obtain ⟨c,hu,hc,_⟩ :=hu
 refine ⟨g.ob i,0,c,hu,hc,?_,?_,trivial⟩
 ·rw [frz_im hr ho,hl];omega
 ·refine LRel.of_get xs 0 fun j a hj => ?_
  have hjn:j < n :=by
   rw [← hl]
   exact (List.getElem?_eq_some_iff.1 hj).1
  obtain ⟨a',v,h1,h2,h3,_⟩ :=hr.cellAt ho hjn
  rw [hx j hjn,hj] at h1
  cases h1
  have hln:Live noL a :=Lives.mem xs a hn (List.mem_of_getElem? hj)
  exact ⟨v,by rw [Nat.zero_add];exact h2,FzV.no (o :=H.o) hln g B w H v rfl hr h3⟩
theorem pure_frz {P:Program} {f:FuncId} {args:List AV} {v':AV} (h:∀ B,∃ v H',CSem P B f args AH.nil (.ret v) H' ∧ FzV H'.o v v') (ha:Lives noL args) (hl:Live noL v'):Pure P f args v' :=by
 refine ⟨hl,fun B H g vs cs w hr hv _ => ?_⟩
 obtain ⟨v,H',hc,hz⟩ :=h w.heap.size
 obtain ⟨g',fr',w',h1,h2,h3,u,h4,h5,h6⟩ :=hc g vs cs w hr.ofNil hv ha.ofNo
 have hv2 :=hz g' _ w' H' u rfl h1.rel h5
 have ho:Out g w.heap.size w AH.nil (frzG g' H') w' AH.nil :=by
  refine ⟨⟨fun _ _ => rfl,fun _ h => absurd rfl h,fun _ _ h => absurd rfl h,fun _ => trivial,fun _ => trivial,fun _ => trivial,fun b hb => ?_,h1.rel.hB,⟨Nat.le_trans h1.rel.gl.1 (frz_le h1.rel 0),h1.rel.gl.2⟩⟩,⟨fun _ h => absurd rfl h,fun _ h => absurd rfl h,fun _ h => absurd rfl h,fun b => Nat.le_trans (h1.ext.im b) (frz_le h1.rel b),h1.ext.cell⟩,h1.below,fun _ h => h,fun k hk hn => ?_,fun k hk => absurd hk (not_owned_nil _ k)⟩
  ·rcases frz_or (g :=g') (H :=H') b with e | ⟨n,i,t,ty,e1,e2⟩
   ·rw [e];exact h1.rel.imz b hb
   ·have :=(h1.rel.ge i (by rw [e1];intro h;cases h)).2
    rw [e1] at this
    have:g'.ob i < w'.heap.size :=this
    omega
  ·have hfr :=h1.frame k hk hn
   refine ⟨hfr.1,?_⟩
   rcases frz_or (g :=g') (H :=H') k with e | ⟨n,i,t,ty,e1,e2⟩
   ·rw [e];exact hfr.2
   ·have :=(h1.rel.ge i (by rw [e1];intro h;cases h)).1
    rw [e1] at this
    have:w.heap.size ≤ g'.ob i :=this
    omega
 exact ⟨_,fr',w',ho.beside hr,h2,h3,u,h4,hv2.noref hl rfl,hl.ofNo⟩
theorem pure_symF {P:Program} {E:EqT → PcT → Env} {q0:EqT} (hE:(E q0 (symPc P)).Ok) (hP:(E q0 (symPc P)).P = P) {f:FuncId} {args:List AV} {v:AV} (ha:Lives noL args) (hl:Live noL v)
  (h:∀ S q pc,S = symSub P → q = q0 → pc = symPc P → (E q pc).Ok → exFn (E q pc) (step (E q pc) S) f .normal args .no .nil 0 fun e _ h1 _ _ => ∃ u,e = .ret u ∧ FzV (hv h1) u v):Pure P f args v :=by
 have hs :=step_ok hE
 obtain ⟨e,pm',h',n',_,⟨u,rfl,hw⟩,_,_,h3⟩ :=exFn_ok hE (S :=step (E q0 (symPc P)) (symSub P)) (by rw [hP] at hs;rw [hP];exact hs) f .normal args .no .nil 0 _ (h _ _ _ rfl rfl rfl hE) HEnd_nil
 refine pure_frz (fun B => ?_) ha hl
 obtain ⟨H',h4,h5⟩ :=h3 B AH.nil hv_nil.symm
 rw [hP] at h5
 exact ⟨u,H',CSem.of_F h5,by rw [h4];exact hw⟩
end
end Go.Abs
/-! Loops in a frame that has begun loops over functions: the marks of such loops are kept. -/
namespace Go.Abs
open Go
noncomputable section
def Dm (m:Nat) (D:List ADf):Prop :=@List.rec ADf (fun _ => Prop) True (fun d _ ih => @ADf.rec (fun _ => Prop) (fun _ _ => False) (fun o => o < m ∧ ih) d) D
theorem Dm.mono {m k:Nat} (hm:m ≤ k):∀ {D:List ADf},Dm m D → Dm k D
 | [],_ => trivial
 | .call _ _ :: _,h => h.elim
 | .mark _ :: _,h => ⟨Nat.lt_of_lt_of_le h.1 hm,Dm.mono hm h.2⟩
theorem Dm.rel {g:Gh} {w:World} {L L':Nat → Prop} {m:Nat}:∀ {D:List ADf} {ds:List Deferred},Dm m D → (∀ i,i < m → L i → L' i) → DfRel g w L D ds → DfRel g w L' D ds
 | [],_,_,_,h => h
 | .call _ _ :: _,_,h,_,_ => h.elim
 | .mark o :: l,ds,h,hl,hr => by
  obtain ⟨ds',e1,h1,h2⟩ :=hr
  exact ⟨ds',e1,hl o h.1 h1,Dm.rel h.2 hl h2⟩
def headD (D:List ADf) (tm:Tr AV) (rd:Bool) (h:Tr AObj) (n b:Nat) (W:List Nat) (keep:List Nat) (ut:List (Nat × AV)) (uh:List (Nat × AObj)) (ux:List AObj):AS :=
 ⟨tput (apL (kept tm keep) ut) (unkT tm),D,.no,rd,appT ux n (tput uh h),endN ux n,b,W⟩
structure AtD (D:List ADf) (tm:Tr AV) (rd:Bool) (h:Tr AObj) (n b:Nat) (W:List Nat) (keep:List Nat) (ut:List (Nat × AV)) (uh:List (Nat × AObj)) (ux:List AObj) (s':AS):Prop where
 df:s'.df = D
 pm:s'.pm = .no
 rd:s'.rd = rd
 b:s'.b = b
 wr:s'.wr = W
 dom:unkT s'.tm = unkT tm
 all:∃ N,N = endN ux n ∧ TmIw N s'.tm (apL (kept tm keep) ut) ∧ ObIs N s'.h (appT ux n (tput uh h)) N
section
variable {D:List ADf} {tm:Tr AV} {rd:Bool} {h:Tr AObj} {n b:Nat} {W:List Nat} {s':AS} {keep:List Nat} {ut:List (Nat × AV)} {uh:List (Nat × AObj)} {ux:List AObj}
theorem AtD.tmI (ha:AtD D tm rd h n b W keep ut uh ux s'):TmIw (n + ux.length) s'.tm (apL (kept tm keep) ut) :=by
 obtain ⟨N,e,h1,_⟩ :=ha.all
 rw [endN_eq] at e
 subst e;exact h1
theorem AtD.obI (ha:AtD D tm rd h n b W keep ut uh ux s'):ObIs (n + ux.length) s'.h (appT ux n (tput uh h)) (n + ux.length) :=by
 obtain ⟨N,e,_,h2⟩ :=ha.all
 rw [endN_eq] at e
 subst e;exact h2
theorem headD_end (he:HEnd h n):HEnd (headD D tm rd h n b W keep ut uh ux).h (headD D tm rd h n b W keep ut uh ux).n :=by
 show HEnd _ (endN ux n)
 rw [endN_eq]
 exact appT_end ux n _ (tput_end he)
theorem AtD.tms (ha:AtD D tm rd h n b W keep ut uh ux s'):∀ i a,(headD D tm rd h n b W keep ut uh ux).tm.get i = some a → ∃ y,s'.tm.get i = some y ∧ WkV y a ∧ bd a ≤ n + ux.length :=by
 intro i a hi
 obtain ⟨⟨y,h1⟩,h2⟩ :=tput_get _ _ _ _ hi
 rcases h2 with h2 | ⟨_,h3⟩
 ·obtain ⟨⟨y,k1,k2⟩,k3⟩ :=ha.tmI.mem i a h2
  exact ⟨y,k1,k2,k3⟩
 ·rw [unkT_get] at h3
  have hd:(s'.tm.get i).map (fun _ => AV.unk) = (tm.get i).map fun _ => AV.unk :=by rw [← unkT_get,← unkT_get,ha.dom]
  cases hs:tm.get i with
  |none => rw [hs] at h3;cases h3
  |some z =>
   rw [hs] at h3 hd
   simp only [Option.map_some,Option.some.injEq] at h3
   subst h3
   cases hs':s'.tm.get i with
   |none => rw [hs'] at hd;cases hd
   |some z' => exact ⟨z',rfl,WkV.unk z',Nat.zero_le _⟩
theorem AtD.obj (ha:AtD D tm rd h n b W keep ut uh ux s') (he:HEnd h n):hv (headD D tm rd h n b W keep ut uh ux).h = fun i => if i < n + ux.length then hv s'.h i else .hole :=by
 funext i
 by_cases e:i < n + ux.length
 ·rw [if_pos e];exact (ha.obI.lt i e).1.symm
 ·rw [if_neg e];exact (headD_end (D :=D) (tm :=tm) (rd :=rd) (b :=b) (W :=W) (keep :=keep) (ut :=ut) (uh :=uh) (ux :=ux) he).hole (by show endN ux n ≤ i;rw [endN_eq];omega)
theorem AtD.bd (ha:AtD D tm rd h n b W keep ut uh ux s'):∀ i,i < n + ux.length → OBd (n + ux.length) (hv s'.h i) :=fun i hi => by
 obtain ⟨e,hb⟩ :=ha.obI.lt i hi
 rw [e];exact hb
theorem AtD.same (ha:AtD D tm rd h n b W keep ut uh ux s'):∀ x,x < n + ux.length → hv (headD D tm rd h n b W keep ut uh ux).h x = hv s'.h x :=fun x hx => (ha.obI.lt x hx).1.symm
end
theorem sym_code {E:Env} (hE:E.Ok) {S:Sub} (hS:S = symSub E.P) {c:Code} {s:AS} {K:KE} (h:exC c E S s K):S.code c s K :=by
 subst hS
 exact fun he => exC_ok hE (symSub_ok E.P) c s K h he
end
end Go.Abs

/-! Loops at whose heads objects may be known less, and after which more may count as written. -/
namespace Go.Abs
open Go
noncomputable section
def TWk:Tr AV → Tr AV → Prop :=@Tr.rec AV (fun _ => Tr AV → Prop) (fun t => @Tr.rec AV (fun _ => Prop) True (fun _ _ _ _ _ => False) t) (fun v _ _ ihl ihr t => @Tr.rec AV (fun _ => Prop) False (fun v' l' r' _ _ => WkV v v' ∧ ihl l' ∧ ihr r') t)
theorem TWk.get1:∀ (p:Pa) (t t':Tr AV),TWk t t' → ∀ a,Tr.getP p t' = some a → ∃ z,Tr.getP p t = some z ∧ WkV z a
 | .e,.nil,.nil,_,a,h => by cases h
 | .e,.node v _ _,.node v' _ _,k,a,h => by cases h;exact ⟨v,rfl,k.1⟩
 | .l _,.nil,.nil,_,a,h => by cases h
 | .r _,.nil,.nil,_,a,h => by cases h
 | .l p,.node _ l _,.node _ l' _,k,a,h => TWk.get1 p l l' k.2.1 a h
 | .r p,.node _ _ r,.node _ _ r',k,a,h => TWk.get1 p r r' k.2.2 a h
 | _,.nil,.node _ _ _,k,_,_ => k.elim
 | _,.node _ _ _,.nil,k,_,_ => k.elim
theorem TWk.get2:∀ (p:Pa) (t t':Tr AV),TWk t t' → ∀ z,Tr.getP p t = some z → ∃ a,Tr.getP p t' = some a ∧ WkV z a
 | .e,.nil,.nil,_,a,h => by cases h
 | .e,.node v _ _,.node v' _ _,k,a,h => by cases h;exact ⟨v',rfl,k.1⟩
 | .l _,.nil,.nil,_,a,h => by cases h
 | .r _,.nil,.nil,_,a,h => by cases h
 | .l p,.node _ l _,.node _ l' _,k,a,h => TWk.get2 p l l' k.2.1 a h
 | .r p,.node _ _ r,.node _ _ r',k,a,h => TWk.get2 p r r' k.2.2 a h
 | _,.nil,.node _ _ _,k,_,_ => k.elim
 | _,.node _ _ _,.nil,k,_,_ => k.elim
inductive OWk:AObj → AObj → Prop
 |same (x:AObj):OWk x x
 |cells {t t':Tr AV} (n:Nat) (ty:TypeId) (h:TWk t t'):OWk (.cells t n ty) (.cells t' n ty)
 |loop (st:LoopState) (fn:FuncId) {tm tm':Tr AV} (nt:Nat) (ps:List Tmp) (as bo:Code) (df:Nat) (h:TWk tm tm'):OWk (.loop st fn tm nt ps as bo df) (.loop st fn tm' nt ps as bo df)
 |iter (m since:Nat) (seen:List Nat) (last:Nat):OWk (.miter m since seen last) (.miter m since [] 0)
theorem OWk.hole {x y:AObj} (h:OWk x y):x = .hole ↔ y = .hole :=by cases h <;> first | exact Iff.rfl | exact ⟨fun e => (nomatch e),fun e => (nomatch e)⟩
theorem OWk.bk {x y:AObj} (h:OWk x y) (g:Gh) (i:Nat):g.bk y i = g.bk x i :=by cases h <;> rfl
theorem OWk.rel {x y:AObj} (h:OWk x y) {g:Gh} {w:World} {i:Nat} (k:ORel g w i x):ORel g w i y :=by
 cases h with
 |same => exact k
 |iter m since seen last =>
  obtain ⟨sn,l,_,h1,h2⟩ :=k
  exact ⟨sn,l,fun e => absurd rfl e,h1,h2⟩
 |cells n ty h =>
  obtain ⟨arr,h1,h2,h3,h4⟩ :=k
  refine ⟨arr,h1,h2,h3,fun j hj => ?_⟩
  obtain ⟨a,v,q1,q2,q3⟩ :=h4 j hj
  obtain ⟨a',r1,r2⟩ :=TWk.get2 _ _ _ h a q1
  exact ⟨a',v,r1,q2,r2.wk _ _ _ q3⟩
 |loop st fn nt ps as bo df h =>
  obtain ⟨l,h1,h2,h3,h4,h5,h6⟩ :=k
  refine ⟨l,h1,h2,h3,h4,fun j a hj => ?_,h6⟩
  obtain ⟨z,r1,r2⟩ :=TWk.get1 _ _ _ h a hj
  exact ⟨(h5 j z r1).1,r2.wk _ _ _ (h5 j z r1).2⟩
theorem OWk.live {x y:AObj} (h:OWk x y) {L:Nat → Prop} (k:OLive L x):OLive L y :=by
 cases h with
 |same => exact k
 |iter => exact k
 |cells n ty h =>
  intro j a hj
  obtain ⟨z,r1,r2⟩ :=TWk.get1 _ _ _ h a hj
  exact r2.lv _ (k j z r1)
 |loop st fn nt ps as bo df h =>
  refine ⟨fun j a hj => ?_,k.2⟩
  obtain ⟨z,r1,r2⟩ :=TWk.get1 _ _ _ h a hj
  exact r2.lv _ (k.1 j z r1)
def ObIw (n:Nat) (h h':Tr AObj) (k:Nat):Prop :=
 @Nat.rec (fun _ => Prop) True (fun i ih => (OWk (hv h i) (hv h' i) ∧ BdO n (hv h' i)) ∧ ih) k
theorem ObIw.lt {n:Nat} {h h':Tr AObj}:∀ {k:Nat},ObIw n h h' k → ∀ i,i < k → OWk (hv h i) (hv h' i) ∧ OBd n (hv h' i)
 |k + 1,hk,i,hi => by
  by_cases e:i = k
  ·subst e;exact ⟨hk.1.1,hk.1.2.ok⟩
  ·exact ObIw.lt hk.2 i (by omega)
def ObSm (b:Nat) (W:List Nat) (h h':Tr AObj) (k:Nat):Prop :=
 @Nat.rec (fun _ => Prop) True (fun i ih => @Bool.rec (fun _ => Prop) ih (@Bool.rec (fun _ => Prop) (hv h i = hv h' i ∧ ih) ih (W.contains i)) (Nat.blt i b)) k
theorem ObSm.lt {b:Nat} {W:List Nat} {h h':Tr AObj}:∀ {k:Nat},ObSm b W h h' k → ∀ i,i < k → i < b → i ∉ W → hv h i = hv h' i
 |k + 1,hk,i,hi,hb,hw => by
  have hk:@Bool.rec (fun _ => Prop) (ObSm b W h h' k) (@Bool.rec (fun _ => Prop) (hv h k = hv h' k ∧ ObSm b W h h' k) (ObSm b W h h' k) (W.contains k)) (Nat.blt k b) :=hk
  by_cases e:i = k
  ·subst e
   have e1:Nat.blt i b = true :=by rw [Nat.blt_eq];exact hb
   have e2:W.contains i = false :=by
    cases h:W.contains i with
    |false => rfl
    |true => exact absurd (List.contains_iff_mem.1 h) hw
   rw [e1,e2] at hk
   exact hk.1
  ·have rest:ObSm b W h h' k :=by
    cases e1:Nat.blt k b with
    |false => rw [e1] at hk;exact hk
    |true =>
     rw [e1] at hk
     cases e2:W.contains k with
     |false => rw [e2] at hk;exact hk.2
     |true => rw [e2] at hk;exact hk
   exact ObSm.lt rest i (by omega) hb hw
def headY (D:List ADf) (tm:Tr AV) (rd:Bool) (h:Tr AObj) (n b:Nat) (W:List Nat) (keep:List Nat) (ut:List (Nat × AV)) (uh:List (Nat × AObj)) (ux:List AObj):AS :=
 ⟨tput (apL (kept tm keep) ut) (unkT tm),D,.no,rd,appT ux n (tput uh h),endN ux n,b,W⟩
structure AtY (D:List ADf) (tm:Tr AV) (rd:Bool) (h:Tr AObj) (n b:Nat) (W:List Nat) (keep:List Nat) (ut:List (Nat × AV)) (uh:List (Nat × AObj)) (ux:List AObj) (s':AS):Prop where
 df:s'.df = D
 pm:s'.pm = .no
 rd:s'.rd = rd
 bq:s'.b = b
 wr:s'.wr = W
 dom:unkT s'.tm = unkT tm
 all:∃ N,N = endN ux n ∧ TmIw N s'.tm (apL (kept tm keep) ut) ∧ ObIw N s'.h (appT ux n (tput uh h)) N ∧ ObSm b W s'.h (appT ux n (tput uh h)) N
section
variable {D:List ADf} {tm:Tr AV} {rd:Bool} {h:Tr AObj} {n b:Nat} {W:List Nat} {s':AS} {keep:List Nat} {ut:List (Nat × AV)} {uh:List (Nat × AObj)} {ux:List AObj}
theorem AtY.tmI (ha:AtY D tm rd h n b W keep ut uh ux s'):TmIw (n + ux.length) s'.tm (apL (kept tm keep) ut) :=by
 obtain ⟨N,e,h1,_⟩ :=ha.all
 rw [endN_eq] at e
 subst e;exact h1
theorem AtY.obI (ha:AtY D tm rd h n b W keep ut uh ux s'):ObIw (n + ux.length) s'.h (appT ux n (tput uh h)) (n + ux.length) ∧ ObSm b W s'.h (appT ux n (tput uh h)) (n + ux.length) :=by
 obtain ⟨N,e,_,h2⟩ :=ha.all
 rw [endN_eq] at e
 subst e;exact h2
theorem headY_end (he:HEnd h n):HEnd (headY D tm rd h n b W keep ut uh ux).h (headY D tm rd h n b W keep ut uh ux).n :=by
 show HEnd _ (endN ux n)
 rw [endN_eq]
 exact appT_end ux n _ (tput_end he)
theorem AtY.tms (ha:AtY D tm rd h n b W keep ut uh ux s'):∀ i a,(headY D tm rd h n b W keep ut uh ux).tm.get i = some a → ∃ y,s'.tm.get i = some y ∧ WkV y a ∧ bd a ≤ n + ux.length :=by
 intro i a hi
 obtain ⟨⟨y,h1⟩,h2⟩ :=tput_get _ _ _ _ hi
 rcases h2 with h2 | ⟨_,h3⟩
 ·obtain ⟨⟨y,k1,k2⟩,k3⟩ :=ha.tmI.mem i a h2
  exact ⟨y,k1,k2,k3⟩
 ·rw [unkT_get] at h3
  have hd:(s'.tm.get i).map (fun _ => AV.unk) = (tm.get i).map fun _ => AV.unk :=by rw [← unkT_get,← unkT_get,ha.dom]
  cases hs:tm.get i with
  |none => rw [hs] at h3;cases h3
  |some z =>
   rw [hs] at h3 hd
   simp only [Option.map_some,Option.some.injEq] at h3
   subst h3
   cases hs':s'.tm.get i with
   |none => rw [hs'] at hd;cases hd
   |some z' => exact ⟨z',rfl,WkV.unk z',Nat.zero_le _⟩
theorem AtY.obj (he:HEnd h n):hv (headY D tm rd h n b W keep ut uh ux).h = fun i => if i < n + ux.length then hv (headY D tm rd h n b W keep ut uh ux).h i else .hole :=by
 funext i
 by_cases e:i < n + ux.length
 ·rw [if_pos e]
 ·rw [if_neg e];exact (headY_end (D :=D) (tm :=tm) (rd :=rd) (b :=b) (W :=W) (keep :=keep) (ut :=ut) (uh :=uh) (ux :=ux) he).hole (by show endN ux n ≤ i;rw [endN_eq];omega)
theorem AtY.wk (ha:AtY D tm rd h n b W keep ut uh ux s'):∀ i,i < n + ux.length → OWk (hv s'.h i) (hv (headY D tm rd h n b W keep ut uh ux).h i) :=fun i hi => (ha.obI.1.lt i hi).1
theorem AtY.bd (ha:AtY D tm rd h n b W keep ut uh ux s'):∀ i,i < n + ux.length → OBd (n + ux.length) (hv (headY D tm rd h n b W keep ut uh ux).h i) :=fun i hi => (ha.obI.1.lt i hi).2
theorem AtY.same (ha:AtY D tm rd h n b W keep ut uh ux s'):∀ x,x < n + ux.length → x < b → x ∉ W → hv (headY D tm rd h n b W keep ut uh ux).h x = hv s'.h x :=fun x hx hb hw => (ha.obI.2.lt x hx hb hw).symm
end
end
end Go.Abs

namespace Go.Abs
open Go
noncomputable section
def TrIw (b:Nat) (W:List Nat) (t:Tr AObj):Nat → Nat → Tr AObj → Prop :=
 @Tr.rec AObj (fun _ => Nat → Nat → Tr AObj → Prop) (fun _ _ t' => @Tr.rec AObj (fun _ => Prop) True (fun _ _ _ _ _ => False) t')
  (fun v _ _ ihl ihr o s t' => @Tr.rec AObj (fun _ => Prop) True
   (fun v' l' r' _ _ => @Bool.rec (fun _ => Prop) (OWk v v') (@Bool.rec (fun _ => Prop) (v = v') (OWk v v') (W.contains o)) (Nat.blt o b) ∧ ihl (Nat.add o s) (Nat.add s s) l' ∧ ihr (Nat.add o (Nat.add s s)) (Nat.add s s) r') t') t
theorem TrIw.refl (b:Nat) (W:List Nat):∀ (t:Tr AObj) (o s:Nat),TrIw b W t o s t
 | .nil,_,_ => trivial
 | .node v l r,o,s => by
  refine ⟨?_,TrIw.refl b W l _ _,TrIw.refl b W r _ _⟩
  cases Nat.blt o b with
  |false => exact .same _
  |true => cases W.contains o with
   |false => rfl
   |true => exact .same _
def atR (b:Nat) (W:List Nat) (o:Nat) (v v':AObj):Prop :=OWk v v' ∧ (o < b → o ∉ W → v = v')
theorem TrIw.get {b:Nat} {W:List Nat}:∀ (j:Nat) (t t':Tr AObj) (o s:Nat),TrIw b W t o s t' → ∀ v',t'.get j = some v' → ∃ v,t.get j = some v ∧ atR b W (o + s * j) v v'
 | _,_,.nil,_,_,_,v',h => by rw [Tr.get_nil] at h;cases h
 | _,.nil,.node _ _ _,_,_,k,_,_ => k.elim
 | 0,.node v l r,.node v' l' r',o,s,k,u,h => by
  cases h
  refine ⟨v,rfl,?_⟩
  have k1 :=k.1
  rw [Nat.mul_zero,Nat.add_zero]
  cases e1:Nat.blt o b with
  |false =>
   rw [e1] at k1
   refine ⟨k1,fun hb _ => ?_⟩
   have:Nat.blt o b = true :=by rw [Nat.blt_eq];exact hb
   rw [this] at e1;cases e1
  |true =>
   rw [e1] at k1
   cases e2:W.contains o with
   |false =>
    rw [e2] at k1
    have k1:v = v' :=k1
    subst k1
    exact ⟨.same _,fun _ _ => rfl⟩
   |true =>
    rw [e2] at k1
    exact ⟨k1,fun _ hn => absurd (List.contains_iff_mem.1 e2) hn⟩
 |j + 1,.node v l r,.node v' l' r',o,s,k,u,h => by
  by_cases hp:j % 2 = 0
  ·have e:(Tr.node v' l' r').get (j + 1) = l'.get (j / 2) :=by unfold Tr.get;rw [Tr.pathOf_odd hp];rfl
   have e':(Tr.node v l r).get (j + 1) = l.get (j / 2) :=by unfold Tr.get;rw [Tr.pathOf_odd hp];rfl
   rw [e] at h
   obtain ⟨w,h1,h2⟩ :=TrIw.get (j / 2) l l' _ _ k.2.1 u h
   refine ⟨w,by rw [e',h1],?_⟩
   have:o + s * (j + 1) = Nat.add o s + Nat.add s s * (j / 2) :=by
    show _ = o + s + (s + s) * (j / 2)
    have hj:j = 2 * (j / 2) :=by omega
    generalize j / 2 = i at *
    subst hj
    rw [Nat.add_mul,Nat.mul_add,Nat.mul_one,Nat.two_mul,Nat.mul_add];omega
   rw [this];exact h2
  ·have e:(Tr.node v' l' r').get (j + 1) = r'.get (j / 2) :=by unfold Tr.get;rw [Tr.pathOf_even hp];rfl
   have e':(Tr.node v l r).get (j + 1) = r.get (j / 2) :=by unfold Tr.get;rw [Tr.pathOf_even hp];rfl
   rw [e] at h
   obtain ⟨w,h1,h2⟩ :=TrIw.get (j / 2) r r' _ _ k.2.2 u h
   refine ⟨w,by rw [e',h1],?_⟩
   have:o + s * (j + 1) = Nat.add o (Nat.add s s) + Nat.add s s * (j / 2) :=by
    show _ = o + (s + s) + (s + s) * (j / 2)
    have hj:j = 2 * (j / 2) + 1 :=by omega
    generalize j / 2 = i at *
    subst hj
    rw [Nat.add_mul,Nat.mul_add,Nat.mul_add,Nat.mul_one,Nat.two_mul,Nat.mul_add];omega
   rw [this];exact h2
termination_by j => j
decreasing_by all_goals omega
def fullB (h:Tr AObj) (k:Nat):Bool :=@Nat.rec (fun _ => Bool) true (fun i ih => @Option.rec AObj (fun _ => Bool) false (fun _ => ih) (h.get i)) k
theorem fullB.lt {h:Tr AObj}:∀ {k:Nat},fullB h k = true → ∀ i,i < k → ∃ x,h.get i = some x
 |k + 1,hk,i,hi => by
  have hk:@Option.rec AObj (fun _ => Bool) false (fun _ => fullB h k) (h.get k) = true :=hk
  cases e:h.get k with
  |none => rw [e] at hk;cases hk
  |some x =>
   rw [e] at hk
   by_cases e2:i = k
   ·subst e2;exact ⟨x,e⟩
   ·exact fullB.lt hk i (by omega)
def TrBd (n:Nat) (t:Tr AObj):Prop :=@Tr.rec AObj (fun _ => Prop) True (fun v _ _ l r => BdO n v ∧ l ∧ r) t
theorem TrBd.get {n:Nat}:∀ (p:Pa) (t:Tr AObj),TrBd n t → ∀ a,Tr.getP p t = some a → BdO n a
 | .e,.nil,_,a,h => by cases h
 | .e,.node v _ _,hb,a,h => by cases h;exact hb.1
 | .l _,.nil,_,a,h => by cases h
 | .l p,.node _ l _,hb,a,h => TrBd.get p l hb.2.1 a h
 | .r _,.nil,_,a,h => by cases h
 | .r p,.node _ _ r,hb,a,h => TrBd.get p r hb.2.2 a h
theorem BdT.mono {n m:Nat} (h:n ≤ m):∀ {t:Tr AV},BdT n t → BdT m t
 | .nil,_ => trivial
 | .node _ _ _,k => ⟨Nat.le_trans k.1 h,BdT.mono h k.2.1,BdT.mono h k.2.2⟩
theorem BdE.mono {n m:Nat} (h:n ≤ m):∀ {es:List (AV × AV)},BdE n es → BdE m es
 | [],_ => trivial
 |(_,_) :: _,k => ⟨Nat.le_trans k.1 h,Nat.le_trans k.2.1 h,BdE.mono h k.2.2⟩
theorem BdO.mono {n m:Nat} (h:n ≤ m) {x:AObj} (k:BdO n x):BdO m x :=by
 cases x with
 |cells t _ _ => exact BdT.mono h k
 |mapo es => exact BdE.mono h k
 |mrow => exact Nat.le_trans k h
 |miter => exact Nat.lt_of_lt_of_le k h
 |loop => exact ⟨BdT.mono h k.1,Nat.lt_of_lt_of_le k.2 h⟩
 | _ => trivial
def BdL (n:Nat) (l:List (Nat × AObj)):Prop :=@List.rec (Nat × AObj) (fun _ => Prop) True (fun p _ ih => @Prod.rec Nat AObj (fun _ => Prop) (fun _ x => BdO n x ∧ ih) p) l
def BdX (n:Nat) (l:List AObj):Prop :=@List.rec AObj (fun _ => Prop) True (fun x _ ih => BdO n x ∧ ih) l
theorem BdL.mem {n:Nat}:∀ {l:List (Nat × AObj)},BdL n l → ∀ i x,(i,x) ∈ l → BdO n x
 |(j,y) :: l,h,i,x,hm => by
  rcases List.mem_cons.1 hm with e | hm
  ·cases e;exact h.1
  ·exact BdL.mem h.2 i x hm
theorem BdX.mem {n:Nat}:∀ {l:List AObj},BdX n l → ∀ x,x ∈ l → BdO n x
 |y :: l,h,x,hm => by
  rcases List.mem_cons.1 hm with e | hm
  ·cases e;exact h.1
  ·exact BdX.mem h.2 x hm
theorem tadd_at {α:Type} {x:α}:∀ (p:Pa) (t:Tr α) (a:α),Tr.getP p (tadd p t x) = some a → Tr.getP p t = some a ∨ a = x
 | .e,.nil,a,h => by cases h;exact .inr rfl
 | .e,.node _ _ _,a,h => by cases h;exact .inr rfl
 | .l _,.nil,a,h => by rw [show tadd (.l _) (.nil:Tr α) x = .nil from rfl,getP_nil] at h;cases h
 | .r _,.nil,a,h => by rw [show tadd (.r _) (.nil:Tr α) x = .nil from rfl,getP_nil] at h;cases h
 | .l p,.node _ l _,a,h => tadd_at p l a h
 | .r p,.node _ _ r,a,h => tadd_at p r a h
theorem appT_mem:∀ (xs:List AObj) (n:Nat) (h:Tr AObj) (i:Nat) (a:AObj),(appT xs n h).get i = some a → h.get i = some a ∨ a ∈ xs
 | [],_,_,_,_,h => .inl h
 |x :: xs,n,h,i,a,hg => by
  rcases appT_mem xs (n + 1) (tadd (pathOf n) h x) i a hg with k | k
  ·by_cases e:i = n
   ·subst e
    rcases tadd_at (pathOf i) h a k with k | k
    ·exact .inl k
    ·subst k;exact .inr (List.mem_cons_self ..)
   ·unfold Tr.get at k
    rw [tadd_ne _ _ _ fun e2 => e (pathOf_inj _ _ e2).symm] at k
    exact .inl k
  ·exact .inr (List.mem_cons_of_mem _ k)
structure AtZ (D:List ADf) (tm:Tr AV) (rd:Bool) (h:Tr AObj) (n b:Nat) (W:List Nat) (keep:List Nat) (ut:List (Nat × AV)) (uh:List (Nat × AObj)) (ux:List AObj) (s':AS):Prop where
 df:s'.df = D
 pm:s'.pm = .no
 rd:s'.rd = rd
 bq:s'.b = b
 wr:s'.wr = W
 dom:unkT s'.tm = unkT tm
 all:∃ N,N = endN ux n ∧ TmIw N s'.tm (apL (kept tm keep) ut) ∧ TrIw b W s'.h 0 1 (appT ux n (tput uh h)) ∧ BdL N uh ∧ BdX N ux ∧ fullB (appT ux n (tput uh h)) N = true
end
end Go.Abs
/-! Loops whose heads have lists of their own that may be begun anew: at each head such lists have the same numbers. -/
namespace Go.Abs
open Go
noncomputable section
def rnG (g:Gh) (n:Nat) (rs:List Nat):Gh :=
 { g with cn :=fun i => if i < n then g.cn i else g.cn (rs.getD (i - n) 0),cb :=fun i => if i < n then g.cb i else g.cb (rs.getD (i - n) 0),cc :=fun i => if i < n then g.cc i else g.cc (rs.getD (i - n) 0) }
theorem rnG_ext (g:Gh) (n:Nat) (rs:List Nat) (w:World):Ext (fun i => i < n) g w (rnG g n rs) w :=
 ⟨fun _ _ => rfl,fun i hi => by show _ ≤ (if i < n then _ else _);rw [if_pos hi];exact Nat.le_refl _,fun i hi _ => ⟨if_pos hi,if_pos hi⟩,fun _ => Nat.le_refl _,fun _ _ _ => rfl⟩
def isChain:AObj → Prop
 | .chain _ _ _ => True
 | _ => False
theorem isChain.bk {x:AObj} (h:isChain x) (g:Gh) (i:Nat):g.bk x i = g.cb i :=by cases x <;> first | rfl | exact h.elim
theorem isChain.ne {x:AObj} (h:isChain x):x ≠ .hole :=fun e => by subst e;exact h
theorem isChain.bd {x:AObj} (h:isChain x) (n:Nat):OBd n x :=by cases x <;> first | trivial | exact h.elim
theorem isChain.lv {x:AObj} (h:isChain x) (L:Nat → Prop):OLive L x :=by cases x <;> first | trivial | exact h.elim
inductive RnV (n:Nat) (rs:List Nat):AV → AV → Prop
 |wk {y a:AV} (h:WkV y a) (b:bd a ≤ n):RnV n rs y a
 |ch {xs:List AV} {k j c d:Nat} (hj:j < rs.length) (e:rs.getD j 0 = c) (e2:d = n + j) (b:bdl xs ≤ n):RnV n rs (.lst xs k (.ch c)) (.lst xs k (.ch d))
 |tr {y z a:AV} (h:WkV y z) (k:RnV n rs z a):RnV n rs y a
def zo (n:Nat) (ux:List AObj) (o:Nat → AObj) (i:Nat):AObj :=if i < n then o i else ux.getD (i - n) .hole
structure ZnR (n:Nat) (rs:List Nat) (ux:List AObj) (o:Nat → AObj):Prop where
 len:rs.length = ux.length
 nd:rs.Nodup
 ge:∀ j,j < rs.length → n ≤ rs.getD j 0
 ob:∀ j,j < rs.length → o (rs.getD j 0) = ux.getD j .hole
 ch:∀ j,j < rs.length → isChain (ux.getD j .hole)
section
variable {n:Nat} {rs:List Nat} {ux:List AObj} {g:Gh} {B:Nat} {w:World} {H:AH} {o:Nat → AObj}
theorem HRel.rn (h:HRel g B w H) (ho:∀ i,i < n → OWk (H.o i) (o i)) (hb:∀ i,i < n → OBd n (o i)) (hz:ZnR n rs ux H.o):HRel (rnG g n rs) B w ⟨n + ux.length,n + ux.length,zo n ux o⟩ :=by
 have nh:∀ i,i < n → o i ≠ .hole → H.o i ≠ .hole :=fun i hi hn e => hn ((ho i hi).hole.1 e)
 have out:∀ i,¬ i < n → ¬ i - n < rs.length → ux.getD (i - n) .hole = .hole :=fun i _ hi => by
  rw [List.getD_eq_getElem?_getD,List.getElem?_eq_none (by rw [← hz.len];omega)];rfl
 have bk1:∀ (x:AObj) i,i < n → (rnG g n rs).bk x i = g.bk x i :=fun x i hi => by cases x <;> first | rfl | exact if_pos hi
 have bk2:∀ i,¬ i < n → i - n < rs.length → (rnG g n rs).bk (ux.getD (i - n) .hole) i = g.bk (H.o (rs.getD (i - n) 0)) (rs.getD (i - n) 0) :=fun i hi hl => by
  rw [(hz.ch _ hl).bk,hz.ob _ hl,(hz.ch _ hl).bk];exact if_neg hi
 have inz:∀ i,¬ i < n → i - n < rs.length → H.o (rs.getD (i - n) 0) ≠ .hole :=fun i _ hl => by rw [hz.ob _ hl];exact (hz.ch _ hl).ne
 have zinj:∀ i j,i < rs.length → j < rs.length → rs.getD i 0 = rs.getD j 0 → i = j :=fun i j hi hj e => by
  rw [List.getD_eq_getElem?_getD,List.getD_eq_getElem?_getD,List.getElem?_eq_getElem hi,List.getElem?_eq_getElem hj] at e
  simp only [Option.getD_some] at e
  have hp :=List.pairwise_iff_getElem.1 hz.nd
  rcases Nat.lt_trichotomy i j with k | k | k
  ·exact absurd e (hp i j hi hj k)
  ·exact k
  ·exact absurd e.symm (hp j i hj hi k)
 constructor
 ·intro i hi
  simp only at hi
  show zo n ux o i = _
  unfold zo
  rw [if_neg (by omega)]
  exact out i (by omega) (by rw [hz.len];omega)
 ·intro i hi
  simp only at hi ⊢
  unfold zo at hi ⊢
  by_cases e:i < n
  ·rw [if_pos e] at hi ⊢;rw [bk1 _ _ e,(ho i e).bk];exact h.ge i (nh i e hi)
  ·rw [if_neg e] at hi ⊢
   by_cases l:i - n < rs.length
   ·rw [bk2 i e l];exact h.ge _ (inz i e l)
   ·exact absurd (out i e l) hi
 ·intro i j hi hj
  simp only at hi hj ⊢
  unfold zo at hi hj ⊢
  by_cases e:i < n
  ·by_cases e2:j < n
   ·rw [if_pos e] at hi ⊢;rw [if_pos e2] at hj ⊢
    rw [bk1 _ _ e,bk1 _ _ e2,(ho i e).bk,(ho j e2).bk];exact h.inj i j (nh i e hi) (nh j e2 hj)
   ·rw [if_pos e] at hi ⊢;rw [if_neg e2] at hj ⊢
    by_cases l:j - n < rs.length
    ·rw [bk1 _ _ e,bk2 j e2 l,(ho i e).bk]
     intro k
     have :=h.inj i _ (nh i e hi) (inz j e2 l) k
     have :=hz.ge _ l
     omega
    ·exact absurd (out j e2 l) hj
  ·by_cases l:i - n < rs.length
   ·by_cases e2:j < n
    ·rw [if_neg e] at hi ⊢;rw [if_pos e2] at hj ⊢
     rw [bk2 i e l,bk1 _ _ e2,(ho j e2).bk]
     intro k
     have :=h.inj _ j (inz i e l) (nh j e2 hj) k
     have :=hz.ge _ l
     omega
    ·rw [if_neg e] at hi ⊢;rw [if_neg e2] at hj ⊢
     by_cases l2:j - n < rs.length
     ·rw [bk2 i e l,bk2 j e2 l2]
      intro k
      have :=zinj _ _ l l2 (h.inj _ _ (inz i e l) (inz j e2 l2) k)
      omega
     ·exact absurd (out j e2 l2) hj
   ·rw [if_neg e] at hi;exact absurd (out i e l) hi
 ·intro i
  simp only
  unfold zo
  by_cases e:i < n
  ·rw [if_pos e]
   by_cases hh:o i = .hole
   ·rw [hh];trivial
   ·have h1 :=(ho i e).rel (h.rel i)
    refine h1.ext (rnG_ext g n rs w) (OLive.mono (fun _ k => k.2) (OLive.below ((ho i e).live (h.live i)) (hb i e))) e rfl rfl (if_pos e)
  ·rw [if_neg e]
   by_cases l:i - n < rs.length
   ·have h1 :=h.rel (rs.getD (i - n) 0)
    rw [hz.ob _ l] at h1
    have h2 :=hz.ch _ l
    revert h1 h2
    cases ux.getD (i - n) .hole <;> intro h1 h2 <;> first | exact h2.elim | skip
    obtain ⟨arr,k1,k2,k3,k4,k5⟩ :=h1
    have e1:(rnG g n rs).cb i = g.cb (rs.getD (i - n) 0) :=if_neg e
    have e2:(rnG g n rs).cc i = g.cc (rs.getD (i - n) 0) :=if_neg e
    have e3:(rnG g n rs).cn i = g.cn (rs.getD (i - n) 0) :=if_neg e
    refine ⟨arr,by rw [e1];exact k1,by rw [e1];exact k2,by rw [e2];exact k3,by rw [e2];exact k4,by rw [e3];exact k5⟩
   ·rw [out i e l];trivial
 ·intro i
  simp only
  unfold zo
  by_cases e:i < n
  ·rw [if_pos e]
   refine OLive.mono (fun j hj => ?_) (OLive.below ((ho i e).live (h.live i)) (hb i e))
   show (if j < n then o j else _) ≠ .hole
   rw [if_pos hj.2];exact fun k => hj.1 ((ho j hj.2).hole.2 k)
  ·rw [if_neg e]
   by_cases l:i - n < rs.length
   ·exact (hz.ch _ l).lv _
   ·rw [out i e l];trivial
 ·intro i
  simp only
  unfold zo
  by_cases e:i < n
  ·rw [if_pos e];exact (hb i e).mono (by omega)
  ·rw [if_neg e]
   by_cases l:i - n < rs.length
   ·exact (hz.ch _ l).bd _
   ·rw [out i e l];trivial
 ·exact h.imz
 ·exact h.hB
 ·exact h.gl
theorem Out.rn {g0:Gh} {w0:World} {H0:AH} (h:Out g0 B w0 H0 g w H) (ho:∀ i,i < n → OWk (H.o i) (o i)) (hb:∀ i,i < n → OBd n (o i)) (hz:ZnR n rs ux H.o) (hL:∀ i,H0.L i → i < n):Out g0 B w0 H0 (rnG g n rs) w ⟨n + ux.length,n + ux.length,zo n ux o⟩ :=by
 refine ⟨h.rel.rn ho hb hz,h.ext.trans ((rnG_ext g n rs w).mono hL),h.below,fun i hi => ?_,h.frame,fun k hk => ?_⟩
 ·show zo n ux o i ≠ .hole
  unfold zo
  rw [if_pos (hL i hi)]
  exact fun e => h.L i hi ((ho i (hL i hi)).hole.2 e)
 ·obtain ⟨i,hi,e⟩ :=hk
  simp only at hi e
  unfold zo at hi e
  by_cases hlt:i < n
  ·rw [if_pos hlt] at hi e
   have e3:(rnG g n rs).bk (o i) i = g.bk (o i) i :=by cases o i <;> first | rfl | exact if_pos hlt
   rw [e3,(ho i hlt).bk] at e
   exact h.own k ⟨i,fun k => hi ((ho i hlt).hole.1 k),e⟩
  ·rw [if_neg hlt] at hi e
   by_cases l:i - n < rs.length
   ·have e3:(rnG g n rs).bk (ux.getD (i - n) .hole) i = g.bk (H.o (rs.getD (i - n) 0)) (rs.getD (i - n) 0) :=by
     rw [(hz.ch _ l).bk,hz.ob _ l,(hz.ch _ l).bk];exact if_neg hlt
    exact h.own k ⟨_,by rw [hz.ob _ l];exact (hz.ch _ l).ne,by rw [← e3];exact e⟩
   ·exact absurd (by rw [List.getD_eq_getElem?_getD,List.getElem?_eq_none (by rw [← hz.len];omega)];rfl) hi
theorem RnV.rel {L:Nat → Prop} {y a:AV} {u:Value} (k:RnV n rs y a) (hl:Live L y) (hv:VRel g w y u):VRel (rnG g n rs) w a u :=by
 induction k with
 |tr h _ ih => exact ih (h.lv _ hl) (h.wk _ _ _ hv)
 |wk h b => exact VRel.ext (rnG_ext g n rs w) _ u (Live.mono (fun _ k => k.2) _ (Live.below _ (h.lv _ hl) b)) (h.wk _ _ _ hv)
 | @ch xs k j c d hj e e2 b =>
  subst e e2
  simp only [VRel] at hv ⊢
  obtain ⟨bb,off,cap,h1,h2,h3,h4,h5⟩ :=hv
  have hx :=VRel.ext (rnG_ext g n rs w) (.lst xs k .no) u (Live.mono (fun _ k => k.2) _ (Live.below (.lst xs k .no) (L :=L) ⟨hl.1,fun _ e => nomatch e⟩ b)) (by simp only [VRel];exact ⟨bb,off,cap,h1,h2,h3,h4,trivial⟩)
  simp only [VRel] at hx
  obtain ⟨bb',off',cap',k1,k2,k3,k4,_⟩ :=hx
  rw [h1] at k1
  cases k1
  refine ⟨bb,off,cap,h1,h2,h3,k4,?_⟩
  have e1:(rnG g n rs).cb (n + j) = g.cb (rs.getD j 0) :=by show (if n + j < n then _ else _) = _;rw [if_neg (by omega),Nat.add_sub_cancel_left]
  have e2:(rnG g n rs).cc (n + j) = g.cc (rs.getD j 0) :=by show (if n + j < n then _ else _) = _;rw [if_neg (by omega),Nat.add_sub_cancel_left]
  have e3:(rnG g n rs).cn (n + j) = g.cn (rs.getD j 0) :=by show (if n + j < n then _ else _) = _;rw [if_neg (by omega),Nat.add_sub_cancel_left]
  show k ≤ (rnG g n rs).cn (n + j) ∧ (k = (rnG g n rs).cn (n + j) → bb = (rnG g n rs).cb (n + j) ∧ off = 0 ∧ cap = (rnG g n rs).cc (n + j))
  rw [e1,e2,e3]
  exact h5
end
/-! ### The head -/
def TmR (n:Nat) (rs:List Nat) (tm:Tr AV) (l:List (Nat × AV)):Prop :=
 @List.rec (Nat × AV) (fun _ => Prop) True (fun p _ ih => @Prod.rec Nat AV (fun _ => Prop) (fun i x => (∃ y,tm.get i = some y ∧ RnV n rs y x) ∧ ih) p) l
theorem TmR.mem {n:Nat} {rs:List Nat} {tm:Tr AV}:∀ {l:List (Nat × AV)},TmR n rs tm l → ∀ j a,(j,a) ∈ l → ∃ y,tm.get j = some y ∧ RnV n rs y a
 |(i,x) :: l,h,j,a,hm => by
  rcases List.mem_cons.1 hm with e | hm
  ·cases e;exact h.1
  ·exact TmR.mem h.2 j a hm
def ZnL (n:Nat) (o:Tr AObj) (rs:List Nat):List AObj → Prop :=
 @List.rec Nat (fun _ => List AObj → Prop) (fun ux => @List.rec AObj (fun _ => Prop) True (fun _ _ _ => False) ux)
  (fun c _ ih ux => @List.rec AObj (fun _ => Prop) False (fun x r _ => (n ≤ c ∧ hv o c = x ∧ isChain x) ∧ ih r) ux) rs
theorem ZnL.get {n:Nat} {o:Tr AObj}:∀ {rs:List Nat} {ux:List AObj},ZnL n o rs ux → rs.length = ux.length ∧ ∀ j,j < rs.length → n ≤ rs.getD j 0 ∧ hv o (rs.getD j 0) = ux.getD j .hole ∧ isChain (ux.getD j .hole)
 | [],[],_ => ⟨rfl,fun j h => absurd h (Nat.not_lt_zero _)⟩
 | [],_ :: _,h => h.elim
 | _ :: _,[],h => h.elim
 |c :: rs,x :: ux,h => by
  obtain ⟨h1,h2⟩ :=ZnL.get h.2
  refine ⟨by rw [List.length_cons,List.length_cons,h1],fun j hj => ?_⟩
  cases j with
  |zero => exact h.1
  |succ j =>
   rw [List.length_cons] at hj
   exact h2 j (by omega)
def ZxL (t:Tr AObj) (n:Nat) (ux:List AObj):Prop :=@List.rec AObj (fun _ => Nat → Prop) (fun _ => True) (fun x _ ih n => t.get n = some x ∧ ih (Nat.succ n)) ux n
theorem ZxL.get {t:Tr AObj}:∀ {ux:List AObj} {n:Nat},ZxL t n ux → ∀ j,j < ux.length → t.get (n + j) = some (ux.getD j .hole)
 |x :: ux,n,h,j,hj => by
  cases j with
  |zero => exact h.1
  |succ j =>
   rw [List.length_cons] at hj
   have :=ZxL.get h.2 j (by omega)
   rw [show n + (j + 1) = Nat.succ n + j by show _ = n + 1 + j;omega]
   exact this
theorem Dm.relG {g:Gh} {w:World} {L L':Nat → Prop} {m n:Nat} {rs:List Nat}:∀ {D:List ADf} {ds:List Deferred},Dm m D → (∀ i,i < m → L i → L' i) → DfRel g w L D ds → DfRel (rnG g n rs) w L' D ds
 | [],_,_,_,h => h
 | .call _ _ :: _,_,h,_,_ => h.elim
 | .mark o :: l,ds,h,hl,hr => by
  obtain ⟨ds',e1,h1,h2⟩ :=hr
  exact ⟨ds',e1,hl o h.1 h1,Dm.relG h.2 hl h2⟩
structure AtR (D:List ADf) (tm:Tr AV) (rd:Bool) (h:Tr AObj) (n b:Nat) (W:List Nat) (keep:List Nat) (ut:List (Nat × AV)) (uh:List (Nat × AObj)) (ux:List AObj) (rs:List Nat) (s':AS):Prop where
 df:s'.df = D
 pm:s'.pm = .no
 rd:s'.rd = rd
 bq:s'.b = b
 wr:s'.wr = W
 dom:unkT s'.tm = unkT tm
 nd:rs.Nodup
 tmr:TmR n rs s'.tm (apL (kept tm keep) ut)
 ob:TrIw b W s'.h 0 1 (tput uh h)
 bd:BdL n uh
 full:fullB (tput uh h) n = true
 zn:ZnL n s'.h rs ux
 zx:ZxL (appT ux n (tput uh h)) n ux
section
variable {D:List ADf} {tm:Tr AV} {rd:Bool} {h:Tr AObj} {n b:Nat} {W:List Nat} {s':AS} {keep:List Nat} {ut:List (Nat × AV)} {uh:List (Nat × AObj)} {ux:List AObj} {rs:List Nat}
theorem AtR.znr (ha:AtR D tm rd h n b W keep ut uh ux rs s'):ZnR n rs ux (hv s'.h) :=
 ⟨ha.zn.get.1,ha.nd,fun j hj => (ha.zn.get.2 j hj).1,fun j hj => (ha.zn.get.2 j hj).2.1,fun j hj => (ha.zn.get.2 j hj).2.2⟩
theorem AtR.old (hB:TrBd n h) (ha:AtR D tm rd h n b W keep ut uh ux rs s'):∀ i,i < n → ∃ x,(tput uh h).get i = some x ∧ (∃ y,s'.h.get i = some y ∧ atR b W i y x) ∧ BdO n x :=fun i hi => by
 obtain ⟨x,hx⟩ :=fullB.lt ha.full i hi
 refine ⟨x,hx,?_,?_⟩
 ·obtain ⟨y,k1,k2⟩ :=TrIw.get i _ _ 0 1 ha.ob x hx
  rw [Nat.zero_add,Nat.one_mul] at k2
  exact ⟨y,k1,k2⟩
 ·rcases (tput_get _ _ _ _ hx).2 with k | ⟨_,k⟩
  ·exact ha.bd.mem i x k
  ·exact TrBd.get (pathOf i) h hB x k
theorem appT_old:∀ (xs:List AObj) (n:Nat) (h:Tr AObj) (i:Nat),i < n → (appT xs n h).get i = h.get i
 | [],_,_,_,_ => rfl
 |x :: xs,n,h,i,hi => by
  have :=appT_old xs (n + 1) (tadd (pathOf n) h x) i (by omega)
  refine this.trans ?_
  unfold Tr.get
  rw [tadd_ne _ _ _ fun e => by have :=pathOf_inj _ _ e;omega]
theorem headR_hv (_he:HEnd h n) (hx:∀ j,j < ux.length → (appT ux n (tput uh h)).get (n + j) = some (ux.getD j .hole)):hv (headY D tm rd h n b W keep ut uh ux).h = zo n ux (hv (tput uh h)) :=by
 funext i
 show hv (appT ux n (tput uh h)) i = _
 unfold zo
 by_cases hi:i < n
 ·rw [if_pos hi]
  unfold hv
  rw [appT_old ux n _ i hi]
 ·rw [if_neg hi]
  by_cases hj:i - n < ux.length
  ·have :=hx (i - n) hj
   rw [show n + (i - n) = i by omega] at this
   unfold hv
   rw [this]
  ·have he2 :=headY_end (D :=D) (tm :=tm) (rd :=rd) (b :=b) (W :=W) (keep :=keep) (ut :=ut) (uh :=uh) (ux :=ux) _he
   have :=he2.hole (i :=i) (by show endN ux n ≤ i;rw [endN_eq];omega)
   rw [List.getD_eq_getElem?_getD,List.getElem?_eq_none (by omega)]
   exact this
theorem AtR.tms (ha:AtR D tm rd h n b W keep ut uh ux rs s'):∀ i a,(headY D tm rd h n b W keep ut uh ux).tm.get i = some a → ∃ y,s'.tm.get i = some y ∧ RnV n rs y a :=by
 intro i a hi
 obtain ⟨⟨y,h1⟩,h2⟩ :=tput_get _ _ _ _ hi
 rcases h2 with h2 | ⟨_,h3⟩
 ·exact ha.tmr.mem i a h2
 ·rw [unkT_get] at h3
  have hd:(s'.tm.get i).map (fun _ => AV.unk) = (tm.get i).map fun _ => AV.unk :=by rw [← unkT_get,← unkT_get,ha.dom]
  cases hs:tm.get i with
  |none => rw [hs] at h3;cases h3
  |some z =>
   rw [hs] at h3 hd
   simp only [Option.map_some,Option.some.injEq] at h3
   subst h3
   cases hs':s'.tm.get i with
   |none => rw [hs'] at hd;cases hd
   |some z' => exact ⟨z',rfl,.wk (WkV.unk z') (Nat.zero_le _)⟩
theorem AtR.adapt (hB:TrBd n h) (hD:Dm n D) (ha:AtR D tm rd h n b W keep ut uh ux rs s') {g g0:Gh} {B:Nat} {w w0:World} {H H0:AH} {fr:Frame} {cs:List Frame} (hH:H.o = hv s'.h) (hL:∀ i,H0.L i → i < n)
  (hr:FrRel g B w (s'.st H) fr cs) (ho:Out g0 B w0 H0 g w H) :
  FrRel (rnG g n rs) B w ((headY D tm rd h n b W keep ut uh ux).st ⟨n + ux.length,n + ux.length,zo n ux (hv (tput uh h))⟩) fr cs ∧ Out g0 B w0 H0 (rnG g n rs) w ⟨n + ux.length,n + ux.length,zo n ux (hv (tput uh h))⟩ :=by
 have hold :=ha.old hB
 have hok:∀ i,i < n → OWk (H.o i) (hv (tput uh h) i) ∧ OBd n (hv (tput uh h) i) :=fun i hi => by
  obtain ⟨x,k1,⟨y,k2,k3⟩,k4⟩ :=hold i hi
  rw [hH]
  unfold hv
  rw [k1,k2]
  exact ⟨k3.1,k4.ok⟩
 have hz:ZnR n rs ux H.o :=by rw [hH];exact ha.znr
 have hrel :=hr.h.rn (fun i hi => (hok i hi).1) (fun i hi => (hok i hi).2) hz
 refine ⟨⟨hrel,⟨fun t a ht => ?_,fun t a ht => ?_⟩,?_,trivial,fun e => hr.rd (by show s'.rd = false;rw [ha.rd];exact e)⟩,ho.rn (fun i hi => (hok i hi).1) (fun i hi => (hok i hi).2) hz hL⟩
 ·obtain ⟨y,k1,k2⟩ :=ha.tms t a ht
  have :=hr.tm.rel t y k1
  exact ⟨this.1,k2.rel (hr.tm.live t y k1) this.2⟩
 ·obtain ⟨y,k1,k2⟩ :=ha.tms t a ht
  have hl :=hr.tm.live t y k1
  have lold:∀ i,H.L i ∧ i < n → zo n ux (hv (tput uh h)) i ≠ .hole :=fun i hi => by
   unfold zo
   rw [if_pos hi.2]
   exact fun e => hi.1 (((hok i hi.2).1).hole.2 e)
  clear k1 ht
  induction k2 with
  |tr h _ ih => exact ih (h.lv _ hl)
  |wk hw hb => exact Live.mono lold _ (Live.below _ (hw.lv _ hl) hb)
  | @ch xs k j c d hj e e2 b =>
   subst e e2
   refine ⟨Lives.mono lold xs (Lives.below xs hl.1 b),fun c e => ?_⟩
   cases e
   show zo n ux _ (n + j) ≠ .hole
   unfold zo
   rw [if_neg (by omega),Nat.add_sub_cancel_left]
   exact (hz.ch j hj).ne
 ·have hdf :=hr.df
  have e:(s'.st H).df = D :=ha.df
  rw [e] at hdf
  exact Dm.relG hD (fun i hi hl => by
   show zo n ux _ i ≠ .hole
   unfold zo
   rw [if_pos hi]
   exact fun e => hl (((hok i hi).1).hole.2 e)) hdf
theorem sym_loopR {E:Env} (hE:E.Ok) {S:Sub} (hS:S = symSub E.P) {A:Type} {c:Code} {f:AS → KE → Prop} {tm:Tr AV} {df:List ADf} {pm:APm} {rd:Bool} {h:Tr AObj} {n b:Nat} {W0:List Nat} {K:KE}
  (W:List Nat) (hW:∀ x,x ∈ W0 → x ∈ W) (keep:List Nat) (ut:A → List (Nat × AV)) (uh:A → List (Nat × AObj)) (ux:A → List AObj) (I:A → Prop) (m:A → Nat) (a0:A) (hbn:b ≤ n) (hD:Dm n df) (hu0:ux a0 = []) (hB:TrBd n h)
  (h0:AtR df tm rd h n b W keep (ut a0) (uh a0) (ux a0) [] ⟨tm,df,pm,rd,h,n,b,W⟩) (hI:I a0)
  (step:∀ a,I a → ∀ N,N = endN (ux a) n → exC c E S ⟨tput (apL (kept tm keep) (ut a)) (unkT tm),df,.no,rd,appT (ux a) n (tput (uh a) h),N,b,W⟩ fun e s' => @AEx.rec (fun _ => Prop)
   (∃ a' rs,I a' ∧ m a' < m a ∧ AtR df tm rd h n b W keep (ut a') (uh a') (ux a') rs s')
   (fun id => K (.exit id) s') (K .ret s') (fun l => K (.panic l) s') e):S.loop c f ⟨tm,df,pm,rd,h,n,b,W0⟩ K :=by
 subst hS
 intro he
 simp only at he
 -- the state at the head, with a heap
 let hd:A → St :=fun a => (headY df tm rd h n b W keep (ut a) (uh a) (ux a)).st ⟨n + (ux a).length,n + (ux a).length,zo n (ux a) (hv (tput (uh a) h))⟩
 let its:List Item :=[.code c,.inLoop c]
 let Pre:Nat → AH → A → Prop :=fun B H a => ∀ g0 fr0 cs0 w0 k,FrRel g0 B w0 ((⟨tm,df,pm,rd,h,n,b,W0⟩ : AS).st H) fr0 cs0 → fr0.mode = .run → fr0.todo = its ++ k →
  ∃ g fr cs w,FrRel g B w (hd a) fr cs ∧ Out g0 B w0 H g w (hd a).H ∧ SameFr fr0 fr ∧ CsOk pm cs0 cs ∧ fr.mode = .run ∧ fr.todo = its ++ k ∧ Steps E.P (lone fr0 cs0 w0) (lone fr cs w)
 have hpm:pm = .no :=h0.pm
 have main:∀ (k:Nat) (a:A),I a → m a < k → (∀ j,j < (ux a).length → (appT (ux a) n (tput (uh a) h)).get (n + j) = some ((ux a).getD j .hole)) → (∀ B H,H.o = hv h → Pre B H a) → (∀ x,x < b → x ∉ W → hv (tput (uh a) h) x = hv h x) →
   ∃ e s',K e s' ∧ Aft ⟨tm,df,pm,rd,h,n,b,W0⟩ s' ∧ ∀ (B:Nat) (H:AH),H.o = hv h → ∃ H':AH,H'.o = hv s'.h ∧ SemL E.P B c ((⟨tm,df,pm,rd,h,n,b,W0⟩ : AS).st H) e (s'.st H') :=by
  intro k
  induction k with
  |zero => intro a _ h;omega
  |succ k ih =>
   intro a hIa hm hx hpre hsm
   have hea :=headY_end (D :=df) (tm :=tm) (rd :=rd) (b :=b) (W :=W) (keep :=keep) (ut :=ut a) (uh :=uh a) (ux :=ux a) he
   have hhv :=headR_hv (D :=df) (tm :=tm) (rd :=rd) (b :=b) (W :=W) (keep :=keep) (ut :=ut a) (uh :=uh a) (ux :=ux a) he hx
   obtain ⟨e,s1,h1,h2,h3⟩ :=exC_ok hE (symSub_ok E.P) c _ _ (step a hIa _ rfl) hea
   have hkept:∀ x,x < b → x ∉ s1.wr → hv s1.h x = hv h x :=fun x hx hn => by
    have k1:Kept b (headY df tm rd h n b W keep (ut a) (uh a) (ux a)).h W s1.h s1.wr :=h2.kept
    rw [k1.same x hx hn,hhv]
    unfold zo
    rw [if_pos (by omega)]
    exact hsm x hx fun h => hn (k1.sub x h)
   have haft:Aft ⟨tm,df,pm,rd,h,n,b,W0⟩ s1 :=⟨h2.he,h2.b,fun x hx => (by
    have k1:Kept b (headY df tm rd h n b W keep (ut a) (uh a) (ux a)).h W s1.h s1.wr :=h2.kept
    exact k1.sub x (hW x hx)),hkept⟩
   by_cases hn:e = .normal
   ·subst hn
    obtain ⟨a',rs,hIa',hlt,hah⟩ :=h1
    refine ih a' hIa' (by omega) hah.zx.get (fun B H hH => ?_) fun x hx hn => ?_
    ·intro g0 fr0 cs0 w0 kk hr0 hm0 ht0
     obtain ⟨g,fr,cs,w,q1,q2,q3,q4,q5,q6,q7⟩ :=hpre B H hH g0 fr0 cs0 w0 kk hr0 hm0 ht0
     obtain ⟨H1,k1,k2⟩ :=h3 B ⟨n + (ux a).length,n + (ux a).length,zo n (ux a) (hv (tput (uh a) h))⟩ hhv.symm
     obtain ⟨g',fr',cs',w',r1,r2,r3,r4,r5,r6,r7⟩ :=k2 g fr cs w (.inLoop c :: kk) q1 q5 q6 (fun e => by cases e) _ rfl
     have hL:∀ i,H.L i → i < n :=fun i hi => by
      apply Nat.lt_of_not_le
      intro hle
      have hi:H.o i ≠ .hole :=hi
      rw [hH] at hi
      exact hi (he.hole hle)
     obtain ⟨z1,z2⟩ :=hah.adapt hB hD k1 hL r1 (q2.trans r2)
     refine ⟨_,{ fr' with todo :=its ++ kk },cs',w',z1.todo _,z2,⟨r3.fn.trans q3.fn,r3.kind.trans q3.kind,r3.round.trans q3.round⟩,?_,r6.1,rfl,q7.trans (r7.trans (step_go ?_))⟩
     ·subst hpm
      have e1:cs' = cs :=r4
      rw [e1];exact q4
     ·simp [stepG,stepG.exec,r6.1,r6.2,its]
    ·obtain ⟨y,k1,⟨z,k2,k3⟩,_⟩ :=hah.old hB x (by omega)
     have e1:hv (tput (uh a') h) x = hv s1.h x :=by
      unfold hv
      rw [k1,k2]
      exact (k3.2 hx hn).symm
     rw [e1]
     exact hkept x hx (by rw [hah.wr];exact hn)
   ·have plain:K e s1 → ∃ e s',K e s' ∧ Aft ⟨tm,df,pm,rd,h,n,b,W0⟩ s' ∧ ∀ (B:Nat) (H:AH),H.o = hv h → ∃ H':AH,H'.o = hv s'.h ∧ SemL E.P B c ((⟨tm,df,pm,rd,h,n,b,W0⟩ : AS).st H) e (s'.st H') :=fun hk => by
     refine ⟨e,s1,hk,haft,fun B H hH => ?_⟩
     obtain ⟨H1,k1,k2⟩ :=h3 B ⟨n + (ux a).length,n + (ux a).length,zo n (ux a) (hv (tput (uh a) h))⟩ hhv.symm
     have k3 :=SemL.stop k2 hn
     refine ⟨H1,k1,fun g0 fr0 cs0 w0 kk hr0 hm0 ht0 hro k' hk' => ?_⟩
     obtain ⟨g,fr,cs,w,q1,q2,q3,q4,q5,q6,q7⟩ :=hpre B H hH g0 fr0 cs0 w0 kk hr0 hm0 ht0
     obtain ⟨g',fr',cs',w',r1,r2,r3,r4,r5,r6,r7⟩ :=k3 g fr cs w kk q1 q5 q6 (fun _ => trivial) k' hk'
     refine ⟨g',fr',cs',w',r1,q2.trans r2,q3.trans r3,?_,?_,r6,q7.trans r7⟩
     ·subst hpm
      have e1:cs = cs0 :=q4
      have e2:cs' = cs :=r4
      show cs' = cs0
      rw [e2,e1]
     ·subst hpm
      exact r5
    cases e with
    |normal => exact absurd rfl hn
    |ret => exact plain h1
    |panic l => exact plain h1
    |exit id => exact plain h1
 refine main (m a0 + 1) a0 hI (by omega) (by rw [hu0];intro j hj;exact absurd hj (Nat.not_lt_zero _)) (fun B H hH => ?_) fun x hx hn => ?_
 ·intro g0 fr0 cs0 w0 kk hr0 hm0 ht0
  have hL:∀ i,H.L i → i < n :=fun i hi => by
   apply Nat.lt_of_not_le
   intro hle
   have hi:H.o i ≠ .hole :=hi
   rw [hH] at hi
   exact hi (he.hole hle)
  obtain ⟨z1,z2⟩ :=h0.adapt hB hD hH hL hr0 (Out.refl hr0.h)
  exact ⟨_,fr0,cs0,w0,z1,z2,⟨rfl,rfl,rfl⟩,CsOk.refl _ _ _ hr0.pm,hm0,ht0,.refl _ _⟩
 ·obtain ⟨y,k1,⟨z,k2,k3⟩,_⟩ :=h0.old hB x (by omega)
  unfold hv
  rw [k1,k2]
  exact (k3.2 hx hn).symm
end
end
end Go.Abs

/-! Loops, with heads whose old objects need not be looked at for what they refer to. -/
namespace Go.Abs
open Go
noncomputable section
section
variable {D:List ADf} {tm:Tr AV} {rd:Bool} {h:Tr AObj} {n b:Nat} {W:List Nat} {s':AS} {keep:List Nat} {ut:List (Nat × AV)} {uh:List (Nat × AObj)} {ux:List AObj}
theorem AtZ.at (ha:AtZ D tm rd h n b W keep ut uh ux s'):∀ i,i < n + ux.length → ∃ x,(appT ux n (tput uh h)).get i = some x ∧ (∃ y,s'.h.get i = some y ∧ atR b W i y x) ∧ ((∀ i,i < n → OBd n (hv h i)) → (∀ i,n ≤ i → h.get i = none) → OBd (n + ux.length) x) :=fun i hi => by
 obtain ⟨N,e,h1,h2,h3,h4,h5⟩ :=ha.all
 rw [endN_eq] at e
 subst e
 obtain ⟨x,hx⟩ :=fullB.lt h5 i hi
 refine ⟨x,hx,?_,fun hOB hend => ?_⟩
 ·obtain ⟨y,k1,k2⟩ :=TrIw.get i _ _ 0 1 h2 x hx
  rw [Nat.zero_add,Nat.one_mul] at k2
  exact ⟨y,k1,k2⟩
 ·rcases appT_mem ux n _ i x hx with k | k
  ·rcases (tput_get _ _ _ _ k).2 with k | ⟨_,k⟩
   ·exact (h3.mem i x k).ok
   ·have hin:i < n :=Nat.lt_of_not_le fun hle => by rw [hend i hle] at k;cases k
    have :=hOB i hin
    unfold hv at this
    rw [k] at this
    exact this.mono (Nat.le_add_right _ _)
  ·exact (h4.mem x k).ok
theorem AtZ.wk (ha:AtZ D tm rd h n b W keep ut uh ux s'):∀ i,i < n + ux.length → OWk (hv s'.h i) (hv (headY D tm rd h n b W keep ut uh ux).h i) :=fun i hi => by
 obtain ⟨x,k1,⟨y,k2,k3⟩,_⟩ :=ha.at i hi
 show OWk (hv s'.h i) (hv (appT ux n (tput uh h)) i)
 unfold hv
 rw [k1,k2]
 exact k3.1
theorem AtZ.same (ha:AtZ D tm rd h n b W keep ut uh ux s'):∀ x,x < n + ux.length → x < b → x ∉ W → hv (headY D tm rd h n b W keep ut uh ux).h x = hv s'.h x :=fun i hi hb hw => by
 obtain ⟨x,k1,⟨y,k2,k3⟩,_⟩ :=ha.at i hi
 show hv (appT ux n (tput uh h)) i = hv s'.h i
 unfold hv
 rw [k1,k2]
 exact (k3.2 hb hw).symm
theorem AtZ.tms (ha:AtZ D tm rd h n b W keep ut uh ux s'):∀ i a,(headY D tm rd h n b W keep ut uh ux).tm.get i = some a → ∃ y,s'.tm.get i = some y ∧ WkV y a ∧ bd a ≤ n + ux.length :=by
 intro i a hi
 obtain ⟨N,e,h1t,_⟩ :=ha.all
 rw [endN_eq] at e
 subst e
 obtain ⟨⟨y,h1⟩,h2⟩ :=tput_get _ _ _ _ hi
 rcases h2 with h2 | ⟨_,h3⟩
 ·obtain ⟨⟨y,k1,k2⟩,k3⟩ :=h1t.mem i a h2
  exact ⟨y,k1,k2,k3⟩
 ·rw [unkT_get] at h3
  have hd:(s'.tm.get i).map (fun _ => AV.unk) = (tm.get i).map fun _ => AV.unk :=by rw [← unkT_get,← unkT_get,ha.dom]
  cases hs:tm.get i with
  |none => rw [hs] at h3;cases h3
  |some z =>
   rw [hs] at h3 hd
   simp only [Option.map_some,Option.some.injEq] at h3
   subst h3
   cases hs':s'.tm.get i with
   |none => rw [hs'] at hd;cases hd
   |some z' => exact ⟨z',rfl,WkV.unk z',Nat.zero_le _⟩
end
end
end Go.Abs

/-! Closures that append to a list that they have captured: the list's cell is one of the first objects, its chain stands wherever it does. -/
namespace Go.Abs
open Go
noncomputable section
def ObEqA (b:Nat → AObj) (h:Tr AObj) (a:Nat) (k:Nat):Prop :=@Nat.rec (fun _ => Prop) True (fun i ih => (i = a ∨ hv h i = b i) ∧ ih) k
theorem ObEqA.lt {b:Nat → AObj} {h:Tr AObj} {a:Nat}:∀ {k:Nat},ObEqA b h a k → ∀ i,i < k → i ≠ a → hv h i = b i
 |k + 1,hk,i,hi,hn => by
  by_cases e:i = k
  ·subst e;exact hk.1.resolve_left hn
  ·exact ObEqA.lt hk.2 i (by omega) hn
def ObBdA (m:Nat) (b:Nat → AObj) (a:Nat) (k:Nat):Prop :=@Nat.rec (fun _ => Prop) True (fun i ih => (i = a ∨ BdO m (b i)) ∧ ih) k
theorem ObBdA.lt {m:Nat} {b:Nat → AObj} {a:Nat}:∀ {k:Nat},ObBdA m b a k → ∀ i,i < k → i ≠ a → OBd m (b i)
 |k + 1,hk,i,hi,hn => by
  by_cases e:i = k
  ·subst e;exact (hk.1.resolve_left hn).ok
  ·exact ObBdA.lt hk.2 i (by omega) hn
section
variable {P:Program} {S:Sub} (hS:S = symSub P) {f:FuncId} {args:List AV} {h:Tr AObj} {n:Nat} {K:AEnd → Tr AObj → Nat → List Nat → Prop} {b:Nat → AObj} {m a:Nat} {ty:TypeId} {sz:Nat} {e:TypeId} {v:AV}
include hS
end
end
end Go.Abs

namespace Go.Abs
open Go
noncomputable section
theorem pure_symX {P:Program} {E:EqT → PcT → Env} {q0:EqT} (hE:(E q0 (symPc P)).Ok) (hP:(E q0 (symPc P)).P = P) {f:FuncId} {args:List AV} {v:AV} (ha:Lives noL args) (hl:Live noL v)
  (h:∀ S q pc,S = symSub P → q = q0 → pc = symPc P → (E q pc).Ok → exFn (E q pc) S f .normal args .no .nil 0 fun e _ _ _ _ => ∃ u,e = .ret u ∧ Wk u v):Pure P f args v :=by
 have hs :=symSub_ok P
 obtain ⟨e,pm',h',n',_,⟨u,rfl,hw⟩,_,_,h3⟩ :=exFn_ok hE (S :=symSub P) (by rw [hP];exact hs) f .normal args .no .nil 0 _ (h _ _ _ rfl rfl rfl hE) HEnd_nil
 refine pure_of (fun B => ?_) ha hw hl
 obtain ⟨H',h4,h5⟩ :=h3 B AH.nil hv_nil.symm
 rw [hP] at h5
 exact ⟨H',CSem.of_F h5⟩
theorem sym_seq {E:Env} {S:Sub} (hS:S = symSub E.P) {x y:Code} {s:AS} {K:KE}
  (h:S.code x s fun e s' => @AEx.rec (fun _ => Prop) (S.code y s' K) (fun id => K (.exit id) s') (K .ret s') (fun l => K (.panic l) s') e):S.code (.seq x y) s K :=by
 subst hS
 intro he
 obtain ⟨e,s1,h1,h2,h3⟩ :=h he
 by_cases hn:e = .normal
 ·subst hn
  obtain ⟨e2,s2,h4,h5,h6⟩ :=h1 h2.he
  refine ⟨e2,s2,h4,h2.trans h5,fun B H hH => ?_⟩
  obtain ⟨H1,k1,k2⟩ :=h3 B H hH
  obtain ⟨H2,k3,k4⟩ :=h6 B H1 k1
  exact ⟨H2,k3,Sem.seq k2 k4⟩
 ·refine ⟨e,s1,?_,h2,fun B H hH => ?_⟩
  ·cases e <;> first
    |exact absurd rfl hn
    |exact h1
  ·obtain ⟨H1,k1,k2⟩ :=h3 B H hH
   exact ⟨H1,k1,Sem.seq_exit k2 hn⟩
theorem sym_seqG {E:Env} {S:Sub} (hS:S = symSub E.P) {A:Type} {x y:Code} {tm:Tr AV} {df:List ADf} {pm:APm} {rd:Bool} {h:Tr AObj} {n b:Nat} {W:List Nat} {K:KE}
  (keep:List Nat) (ut:A → List (Nat × AV)) (uh:A → List (Nat × AObj)) (ux:A → List AObj) (I:A → Prop) (hbn:b ≤ n)
  (h1:S.code x ⟨tm,df,pm,rd,h,n,b,W⟩ fun e s' => @AEx.rec (fun _ => Prop) (∃ a,I a ∧ AtG tm rd h n b W keep (ut a) (uh a) (ux a) s') (fun id => K (.exit id) s') (K .ret s') (fun l => K (.panic l) s') e)
  (h2:∀ a,I a → ∀ N,N = endN (ux a) n → S.code y ⟨tput (apL (kept tm keep) (ut a)) (unkT tm),[],.no,rd,appT (ux a) n (tput (uh a) h),N,b,W⟩ K):S.code (.seq x y) ⟨tm,df,pm,rd,h,n,b,W⟩ K :=by
 subst hS
 intro he
 obtain ⟨e,s1,k1,k2,k3⟩ :=h1 he
 by_cases hn:e = .normal
 ·subst hn
  obtain ⟨a,hIa,hah⟩ :=k1
  have he:HEnd h n :=he
  obtain ⟨e2,s2,q1,q2,q3⟩ :=h2 a hIa _ rfl (headG_end (tm :=tm) (rd :=rd) (b :=b) (W :=W) (keep :=keep) (ut :=ut a) (uh :=uh a) (ux :=ux a) he)
  refine ⟨e2,s2,q1,⟨q2.he,q2.b,?_⟩,fun B H hH => ?_⟩
  ·have k:Kept b h W s1.h s1.wr :=k2.kept
   rw [hah.wr] at k
   have k':Kept b (headG tm rd h n b W keep (ut a) (uh a) (ux a)).h W s2.h s2.wr :=q2.kept
   have k0:Kept b h W (headG tm rd h n b W keep (ut a) (uh a) (ux a)).h W :=⟨fun x hx => hx,fun x hx hn => (hah.same x (by omega)).trans (k.same x hx hn)⟩
   exact k0.trans k'
  ·obtain ⟨H1,p1,p2⟩ :=k3 B H hH
   obtain ⟨H2,p3,p4⟩ :=q3 B ⟨n + (ux a).length,n + (ux a).length,fun i => if i < n + (ux a).length then hv s1.h i else .hole⟩ (hah.obj he).symm
   refine ⟨H2,p3,Sem.seq (σ1 :=(headG tm rd h n b W keep (ut a) (uh a) (ux a)).st ⟨n + (ux a).length,n + (ux a).length,fun i => if i < n + (ux a).length then hv s1.h i else .hole⟩) ?_ p4⟩
   refine SemT.postW (.inl rfl) p2 (m :=n + (ux a).length) ?_ (fun i hi => by show OBd _ (H1.o i);rw [p1];exact hah.bd i hi) hah.tms hah.df rfl rfl hah.rd.symm fun i hi => ?_
   ·show AH.mk _ _ _ = AH.mk _ _ (fun i => if i < n + (ux a).length then H1.o i else .hole)
    rw [p1]
   ·apply Nat.lt_of_not_le
    intro hle
    have hi:H.o i ≠ .hole :=hi
    rw [hH] at hi
    exact hi (he.hole (by show n ≤ i;omega))
 ·refine ⟨e,s1,?_,k2,fun B H hH => ?_⟩
  ·cases e <;> first
    |exact absurd rfl hn
    |exact k1
  ·obtain ⟨H1,p1,p2⟩ :=k3 B H hH
   exact ⟨H1,p1,Sem.seq_exit p2 hn⟩
end
end Go.Abs
/-! Parts of code that are not yet carried out: blocks, and loops. -/
namespace Go.Abs
open Go
noncomputable section
section
variable {D:List ADf} {tm:Tr AV} {rd:Bool} {h:Tr AObj} {n b:Nat} {W:List Nat} {s':AS} {keep:List Nat} {ut:List (Nat × AV)} {uh:List (Nat × AObj)} {ux:List AObj} {rs:List Nat}
end
end
end Go.Abs

/-! Walks through maps: any entry may come next. -/
namespace Go.Abs
open Go
noncomputable section
/-! ### All ways lead to one end -/
def cutH (s:AS):AH :=⟨s.n,s.n,hv s.h⟩
def Less (s0 s s':AS):Prop :=
 ∀ (B:Nat) (H0 H:AH),H0.o = hv s0.h → H.o = hv s.h → ∀ g0 w0 g fr cs w,Out g0 B w0 H0 g w H → FrRel g B w (s.st H) fr cs → FrRel g B w (s'.st (cutH s')) fr cs ∧ Out g0 B w0 H0 g w (cutH s')
section
variable {P:Program} {its its1:List Item} {s0 s s1 s':AS} {e:AEx}
end
section
variable {tm:Tr AV} {rd:Bool} {h:Tr AObj} {n b:Nat} {W:List Nat} {s0 s1:AS} {keep:List Nat} {ut:List (Nat × AV)} {uh:List (Nat × AObj)}
theorem Less.of (ha:AtG tm rd h n b W keep ut uh [] s1) (he:HEnd h n) (hl:∀ i,n ≤ i → hv s0.h i = .hole):Less s0 s1 (headG tm rd h n b W keep ut uh []) :=by
 intro B H0 H hH0 hH g0 w0 g fr cs w ho hr
 have hob :=ha.obj he
 have e0:n + ([]:List AObj).length = n :=rfl
 rw [e0] at hob
 have hc:cutH (headG tm rd h n b W keep ut uh []) = ⟨n,n,fun i => if i < n then H.o i else .hole⟩ :=by
  show AH.mk n n _ = _
  rw [hob,hH]
 refine ⟨?_,?_⟩
 ·exact hr.cutW (m :=n) hc (fun i hi => by show OBd n (H.o i);rw [hH];exact ha.bd i hi) ha.tms ha.df rfl rfl ha.rd.symm
 ·rw [hc]
  refine ho.cutAt (fun i hi => by rw [hH];exact ha.bd i hi) fun i hi => ?_
  apply Nat.lt_of_not_le
  intro hle
  have hi:H0.o i ≠ .hole :=hi
  rw [hH0] at hi
  exact hi (hl i hle)
end
end
end Go.Abs

namespace Go.Abs
open Go
noncomputable section
def ghOf (m:Nat → Nat) (w:World):Gh :=⟨fun _ => 0,fun b => if b < w.heap.size then m b else 0,fun _ => 0,fun _ => 0,fun _ => 0⟩
theorem HRel.old (m:Nat → Nat) (w:World) (hg:GOk (ghOf m w) w):HRel (ghOf m w) w.heap.size w AH.nil where
 wf :=fun _ _ => rfl
 ge :=fun _ h => absurd rfl h
 inj :=fun _ _ h => absurd rfl h
 rel :=fun _ => trivial
 live :=fun _ => trivial
 kp :=fun _ => trivial
 imz :=fun _ hb => if_neg (Nat.not_lt.2 hb)
 hB :=Nat.le_refl _
 gl :=hg
theorem Pure.callsAt {P:Program} {f:FuncId} {args:List AV} {b:Bool} (h:Pure P f args (.bool b)) {w:World} {vs:Array Value} (m:Nat → Nat) (hg:GOk (ghOf m w) w) (hv:VRels (ghOf m w) w args vs.toList) (hl:Lives noL args) :
  Calls P f vs w (fun e w' => e = .returned (.bool b) ∧ RowKit.Below w.heap.size w w') :=by
 intro cs
 obtain ⟨g',fr',w',h1,h2,h3,u,h4,h5,_⟩ :=h.2 w.heap.size AH.nil _ vs cs w (HRel.old m w hg) hv hl.ofNo
 simp only [VRel] at h5
 subst h5
 exact ⟨.returned (.bool b),w',fr',⟨rfl,h1.below⟩,h2,h3,h4⟩
theorem VRels.one {g:Gh} {w:World} {x:AV} {u:Value} {xs:List AV} {us:List Value} (h:VRel g w x u) (hs:VRels g w xs us):VRels g w (x :: xs) (u :: us) :=⟨u,us,rfl,h,hs⟩
theorem VRel.agg' {g:Gh} {w:World} {xs:List AV} {us:Array Value} (h:VRels g w xs us.toList):VRel g w (.agg xs) (.agg us) :=⟨us,rfl,h⟩

end
end Go.Abs
