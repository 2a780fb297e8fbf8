/-
  The document's first train.
  The document's lists of settings.
  The document's settings.
-/
import Derived.Test.YtpjclnoehlflcaaGreatDoorT36
import Derived.Test.YtpjclnoehlflcaaGreatDoorU8
import Derived.Test.YtpjclnoehlflcaaGreatDoorU7
/-! The document's first train. -/
namespace Go.Abs.Seat
noncomputable section
open Go Go.Abs Go.Proofs.Tryz
set_option maxRecDepth 100000
set_option maxHeartbeats 40000000
attribute [local irreducible] IntKind.wrap pEq
def zp (t:List (Nat × Nat)):List (Int × Int) :=t.map fun p => (Int.ofNat p.1,Int.ofNat p.2)
theorem zp_len (t:List (Nat × Nat)):(zp t).length = t.length :=List.length_map _
def trA:List (Nat × Nat) → AV
 | [] => .nils
 |p :: r => pv (zp (p :: r))
theorem trA_no (t:List (Nat × Nat)):Live noL (trA t) :=by
 cases t with
 |nil => trivial
 |cons p r => exact pv_no _
def fV:Option (List (Nat × Nat)) → AV
 |none => .tup [.nils,.bool false]
 |some t => .tup [trA t,.bool true]
theorem fV_no (r:Option (List (Nat × Nat))):Live noL (fV r) :=by
 cases r with
 |none => exact ⟨trivial,trivial,trivial⟩
 |some t => exact ⟨trA_no t,trivial,trivial⟩
theorem ko_rT {x:Nat} {c:Bool} {E:Env} {S:Sub} {o:Oper} {K:KE} {tm:Tr AV} {df:List ADf} {pm:APm} {rd:Bool} {h:Tr AObj} {n b:Nat} {wr:List Nat} (hc:c = true) (hk:opRun E S o K tm df pm rd h n b wr):@Bool.rec (fun _ => KO) opSkip opRun (@Bool.rec (fun _ => Bool) (@Bool.rec (fun _ => Bool) true false (x,true).snd) (x,true).snd c) E S o K tm df pm rd h n b wr :=by subst hc;exact hk
theorem ko_sT {x:Nat} {c:Bool} {E:Env} {S:Sub} {o:Oper} {K:KE} {tm:Tr AV} {df:List ADf} {pm:APm} {rd:Bool} {h:Tr AObj} {n b:Nat} {wr:List Nat} (hc:c = false) (hk:opSkip E S o K tm df pm rd h n b wr):@Bool.rec (fun _ => KO) opSkip opRun (@Bool.rec (fun _ => Bool) (@Bool.rec (fun _ => Bool) true false (x,true).snd) (x,true).snd c) E S o K tm df pm rd h n b wr :=by subst hc;exact hk
theorem ko_rF {x:Nat} {c:Bool} {E:Env} {S:Sub} {o:Oper} {K:KE} {tm:Tr AV} {df:List ADf} {pm:APm} {rd:Bool} {h:Tr AObj} {n b:Nat} {wr:List Nat} (hc:c = false) (hk:opRun E S o K tm df pm rd h n b wr):@Bool.rec (fun _ => KO) opSkip opRun (@Bool.rec (fun _ => Bool) (@Bool.rec (fun _ => Bool) true false (x,false).snd) (x,false).snd c) E S o K tm df pm rd h n b wr :=by subst hc;exact hk
theorem ko_sF {x:Nat} {c:Bool} {E:Env} {S:Sub} {o:Oper} {K:KE} {tm:Tr AV} {df:List ADf} {pm:APm} {rd:Bool} {h:Tr AObj} {n b:Nat} {wr:List Nat} (hc:c = true) (hk:opSkip E S o K tm df pm rd h n b wr):@Bool.rec (fun _ => KO) opSkip opRun (@Bool.rec (fun _ => Bool) (@Bool.rec (fun _ => Bool) true false (x,false).snd) (x,false).snd c) E S o K tm df pm rd h n b wr :=by subst hc;exact hk
theorem pick_t {t:Bool} {a b:AV} (h:t = true):pPick (.bool t) a b = Plan.ret a :=by subst h;rfl
theorem pick_f {t:Bool} {a b:AV} (h:t = false):pPick (.bool t) a b = Plan.ret b :=by subst h;rfl
end
end Go.Abs.Seat

/-! The document's lists of settings. -/
namespace Go.Abs.Seat
noncomputable section
open Go Go.Abs Go.Proofs.Tryz
set_option maxRecDepth 100000
set_option maxHeartbeats 40000000
attribute [local irreducible] IntKind.wrap pEq
def WkVs:List AV → List AV → Prop
 | [],[] => True
 |x :: xs,y :: ys => WkV x y ∧ WkVs xs ys
 | _,_ => False
theorem WkVs.refl:∀ xs,WkVs xs xs
 | [] => trivial
 |x :: xs => ⟨WkV.refl x,WkVs.refl xs⟩
theorem WkVs.app:∀ {xs ys zs ws:List AV},WkVs xs ys → WkVs zs ws → WkVs (xs ++ zs) (ys ++ ws)
 | [],[],_,_,_,h => h
 | _ :: _,_ :: _,_,_,h,k => ⟨h.1,WkVs.app h.2 k⟩
theorem WkVs.len:∀ {xs ys:List AV},WkVs xs ys → xs.length = ys.length
 | [],[],_ => rfl
 | _ :: _,_ :: _,h => by rw [List.length_cons,List.length_cons,WkVs.len h.2]
theorem WkVs.cells {g:Gh} {w:World}:∀ {xs ys:List AV} (b off:Nat),WkVs xs ys → LRel g w xs b off → LRel g w ys b off
 | [],[],_,_,_,h => h
 | _ :: _,_ :: _,b,off,k,h => by
  obtain ⟨⟨u,hu,hv⟩,hr⟩ :=h
  exact ⟨⟨u,hu,k.1.wk _ _ _ hv⟩,WkVs.cells b (off + 1) k.2 hr⟩
theorem WkVs.live {L:Nat → Prop}:∀ {xs ys:List AV},WkVs xs ys → Lives L xs → Lives L ys
 | [],[],_,h => h
 | _ :: _,_ :: _,k,h => ⟨k.1.lv _ h.1,WkVs.live k.2 h.2⟩
theorem WkVs.lst {xs ys:List AV} (h:WkVs xs ys) (n:Nat) (own:Own):WkV (.lst xs n own) (.lst ys n own) :=by
 refine ⟨fun g w u hu => ?_,fun L hl => ⟨h.live hl.1,hl.2⟩⟩
 simp only [VRel] at hu ⊢
 obtain ⟨b,off,cap,h1,h2,h3,h4,h5⟩ :=hu
 exact ⟨b,off,cap,h1,h2,by rw [← h.len];exact h3,h.cells b off h4,h5⟩
theorem _root_.Go.Abs.WkV.trans {a b c:AV} (h:WkV a b) (k:WkV b c):WkV a c :=⟨fun _ _ _ hu => k.wk _ _ _ (h.wk _ _ _ hu),fun _ hl => k.lv _ (h.lv _ hl)⟩
def lV (l:List (List Int)):AV :=if l = [] then .nils else sl l
theorem lV_no (l:List (List Int)):Live noL (lV l) :=by
 unfold lV
 split
 ·trivial
 ·exact ⟨svs_no l,fun _ h => nomatch h⟩
theorem lsts_len:∀ (k m a:Nat),(lsts m a k).length ≤ 2 ^ k :=by
 intro k
 induction k with
 |zero => intro m a;cases m <;> simp [lsts]
 |succ k ih =>
  intro m a
  cases m with
  |zero => rw [lsts];exact Nat.one_le_two_pow
  |succ m =>
   rw [lsts,List.length_append,List.length_map,Nat.pow_succ]
   have :=ih m (a + 1)
   have :=ih (m + 1) (a + 1)
   omega
theorem lsts_zero (a k:Nat):lsts 0 a k = [[]] :=by rw [lsts]
theorem lsts_succ (m a k:Nat):lsts (m + 1) a (k + 1) = (lsts m (a + 1) k).map (Int.ofNat a :: ·) ++ lsts (m + 1) (a + 1) k :=by rw [lsts]
theorem lsts_one (a k:Nat):lsts 1 a (k + 1) = [Int.ofNat a] :: lsts 1 (a + 1) k :=by rw [lsts_succ,lsts_zero];rfl
theorem lsts_none (m a:Nat):lsts (m + 1) a 0 = [] :=by rw [lsts]
theorem app_sv (M:List (List Int)) (q:List Int) {v:AV} (e:WkV v (sv q)) (c:Nat):WkV (AV.lst (svs M ++ [v]) (M.length + (0 + 1)) (.ch c)) (.lst (svs (M ++ [q])) (M ++ [q]).length (.ch c)) :=by
 rw [svs_app,List.length_append]
 exact WkVs.lst (xs :=svs M ++ [v]) (ys :=svs M ++ [sv q]) (WkVs.app (zs :=[v]) (WkVs.refl _) ⟨e,trivial⟩) _ _
theorem app_sv0 (q:List Int) {v:AV} (e:WkV v (sv q)) (c:Nat):WkV (AV.lst [v] (0 + 1) (.ch c)) (.lst (svs [q]) [q].length (.ch c)) :=WkVs.lst (xs :=[v]) (ys :=svs [q]) ⟨e,trivial⟩ _ _
theorem lists_zero (a k:Nat):Pure prog 78 [nv a,nv (a + k),nv 0] (lV (lsts 0 a k)) :=by
 have e:lsts 0 a k = [[]] :=by rw [lsts]
 rw [e]
 refine zA fun S q pc hS hq hC hE => ?_
 conv=>whnf
 exact ⟨_,rfl,wk_own (xs :=[.nils]) (n :=1) rfl⟩
theorem lists_one (a k:Nat) (hk:a + k ≤ 8):Pure prog 78 [nv a,nv (a + k),nv 1] (lV (lsts 1 a k)) :=by
 have lv :=lV_no (lsts 1 a k)
 refine zA fun S q pc hS hq hC hE => ?_
 conv=>whnf
 refine sym_loopG hE hS (A :=Nat × List (List Int) × AV × List AObj) [0,1,2] (fun (n,_,b,_) => [(7,b),(8,nv n)]) (fun _ => []) (fun a => a.2.2.2) (fun (n,M,b,ux) => a ≤ n ∧ n ≤ a + k ∧ lsts 1 a k = M ++ lsts 1 n (a + k - n) ∧ (M = [] ∧ b = .nils ∧ ux = [] ∨ M ≠ [] ∧ b = .lst (svs M) M.length (.ch 0) ∧ ux = [.chain M.length 1 25])) (fun (n,_,_,_) => a + k - n) (a,[],.nils,[]) (Nat.le_of_ble_eq_true rfl) rfl zG0 ⟨Nat.le_refl _,Nat.le_add_right _ _,by rw [Nat.add_sub_cancel_left];rfl,.inl ⟨rfl,rfl,rfl⟩⟩ ?_
 rintro ⟨n,M,b,ux⟩ ⟨hn,hn2,he,⟨rfl,rfl,rfl⟩ | ⟨hne,rfl,rfl⟩⟩ N hN
 ·obtain rfl:N = 0 :=hN
  conv=>whnf
  by_cases h:n < a + k
  ·have p :=lists_zero (n + 1) (a + k - (n + 1))
   rw [show n + 1 + (a + k - (n + 1)) = a + k by omega,show lsts 0 (n + 1) (a + k - (n + 1)) = [[]] by rw [lsts],show lV [[]] = .lst [.nils] 1 .no from rfl] at p
   rw [show decide (Int.ofNat n < Int.ofNat (a + k)) = true from ltN_t h]
   conv=>whnf
   rw [show IntKind.i64.wrap (Int.ofNat n + 1) = Int.ofNat (n + 1) from wrapN (m :=n + 1) (by omega),show IntKind.i64.wrap (Int.ofNat 1 - 1) = Int.ofNat 0 from wrapN (m :=0) (by omega)]
   conv=>whnf
   refine sym_pure hC (p) ?_
   conv=>whnf
   refine sym_unroll hE hS ?_
   conv=>whnf
   rw [show IntKind.i64.wrap (0 + 1) = 1 from wrapI (by decide) (by decide)]
   conv=>whnf
   refine sym_unroll hE hS ?_
   conv=>whnf
   have hn1:IntKind.i64.wrap (Int.ofNat n + 1) = Int.ofNat (n + 1) :=wrapN (m :=n + 1) (by omega)
   have e2:a + k - n = (a + k - (n + 1)) + 1 :=by omega
   refine ⟨(n + 1,[[Int.ofNat n]],.lst (svs [[Int.ofNat n]]) 1 (.ch 0),[.chain 1 1 25]),⟨by omega,by omega,by rw [he,e2,lsts_one];rfl,.inr ⟨by simp,rfl,rfl⟩⟩,by show a + k - (n + 1) < a + k - n;omega,Nat.zero_le _,(by refine ⟨rfl,rfl,rfl,rfl,rfl,rfl,1,rfl,?_,?_⟩ <;> repeat' (first | exact ⟨_,rfl,app_sv0 [Int.ofNat n] (WkV.own [nv n] 1 _) 0⟩ | exact zZ | apply And.intro))⟩
  ·rw [show decide (Int.ofNat n < Int.ofNat (a + k)) = false from ltN_f h]
   conv=>whnf
   refine .inl ?_
   conv=>whnf
   rw [he,show a + k - n = 0 by omega,lsts_none]
   exact ⟨_,rfl,Wk.refl _⟩
 ·obtain rfl:N = 1 :=hN
  have ml :=lsts_len k 1 a
  have kp8:2 ^ k ≤ 2 ^ 8 :=Nat.pow_le_pow_right (by omega) (by omega)
  rw [he,List.length_append] at ml
  conv=>whnf
  by_cases h:n < a + k
  ·have p :=lists_zero (n + 1) (a + k - (n + 1))
   rw [show n + 1 + (a + k - (n + 1)) = a + k by omega,show lsts 0 (n + 1) (a + k - (n + 1)) = [[]] by rw [lsts],show lV [[]] = .lst [.nils] 1 .no from rfl] at p
   rw [show decide (Int.ofNat n < Int.ofNat (a + k)) = true from ltN_t h]
   conv=>whnf
   rw [show IntKind.i64.wrap (Int.ofNat n + 1) = Int.ofNat (n + 1) from wrapN (m :=n + 1) (by omega),show IntKind.i64.wrap (Int.ofNat 1 - 1) = Int.ofNat 0 from wrapN (m :=0) (by omega)]
   conv=>whnf
   refine sym_pure hC (p) ?_
   conv=>whnf
   refine sym_unroll hE hS ?_
   conv=>whnf
   refine bool_true (zT (show (M.length + (0 + 1)) * 24 ≤ 140737488355328 by omega)) ?_
   conv=>whnf
   refine bool_true (zT (show M.length + (0 + 1) ≤ 9223372036854775807 by omega)) ?_
   conv=>whnf
   refine bool_true (lenIs_svs M) ?_
   conv=>whnf
   refine bool_true (zT rfl) ?_
   conv=>whnf
   rw [show IntKind.i64.wrap (0 + 1) = 1 from wrapI (by decide) (by decide)]
   conv=>whnf
   refine sym_unroll hE hS ?_
   conv=>whnf
   have hn1:IntKind.i64.wrap (Int.ofNat n + 1) = Int.ofNat (n + 1) :=wrapN (m :=n + 1) (by omega)
   have e2:a + k - n = (a + k - (n + 1)) + 1 :=by omega
   refine ⟨(n + 1,M ++ [[Int.ofNat n]],.lst (svs (M ++ [[Int.ofNat n]])) (M ++ [[Int.ofNat n]]).length (.ch 0),[.chain (M ++ [[Int.ofNat n]]).length 1 25]),⟨by omega,by omega,by rw [he,e2,lsts_one,List.append_assoc];rfl,.inr ⟨by simp,rfl,rfl⟩⟩,by show a + k - (n + 1) < a + k - n;omega,Nat.le_refl _,(by refine ⟨rfl,rfl,rfl,rfl,rfl,rfl,1,rfl,?_,?_⟩ <;> repeat' (first | exact ⟨_,rfl,app_sv M [Int.ofNat n] (WkV.own [nv n] 1 _) 0⟩ | exact app_L M _ | exact zZ | apply And.intro))⟩
  ·rw [show decide (Int.ofNat n < Int.ofNat (a + k)) = false from ltN_f h]
   conv=>whnf
   refine .inl ?_
   conv=>whnf
   rw [he,show a + k - n = 0 by omega,lsts_none,List.append_nil,lV,if_neg hne]
   exact ⟨_,rfl,wk_own rfl⟩
theorem lsts_cons {m a k i:Nat} (h:i < (lsts (m + 1) a k).length):∃ x r,gs (lsts (m + 1) a k) i = x :: r ∧ r.length = m :=by
 have :=((lsts_mem _ _ _ _).1 (gs_mem _ h)).1
 cases e:gs (lsts (m + 1) a k) i with
 |nil => rw [e] at this;cases this
 |cons x r => rw [e] at this;exact ⟨x,r,rfl,by simpa using this⟩
theorem take_map (n:Int) (L:List (List Int)) {i:Nat} (h:i < L.length):(L.take (i + 1)).map (n :: ·) = (L.take i).map (n :: ·) ++ [n :: gs L i] :=by rw [take_gs L h,List.map_append];rfl
theorem el_ok (n x:Int) (r:List Int) (c:Nat):WkV (.lst (iv n :: ivs (x :: r)) (0 + 1 + (r.length + 1)) (.ch c)) (sv (n :: x :: r)) :=by
 rw [show 0 + 1 + (r.length + 1) = r.length + 1 + 1 by omega]
 exact WkV.own (ivs (n :: x :: r)) _ _
theorem lists_more (m:Nat) (ih:∀ a k,a + k ≤ 8 → Pure prog 78 [nv a,nv (a + k),nv (m + 1)] (lV (lsts (m + 1) a k))) (a k:Nat) (hk:a + k ≤ 8) (hm:m ≤ 8):Pure prog 78 [nv a,nv (a + k),nv (m + 2)] (lV (lsts (m + 2) a k)) :=by
 have lv :=lV_no (lsts (m + 2) a k)
 have ml :=lsts_len k (m + 2) a
 have kp8:2 ^ k ≤ 2 ^ 8 :=Nat.pow_le_pow_right (by omega) (by omega)
 refine zA fun S q pc hS hq hC hE => ?_
 conv=>whnf
 rw [show (Int.ofNat (m + 2) == 0) = false from rfl]
 conv=>whnf
 refine sym_loopG hE hS (A :=Nat × List (List Int) × AV × List AObj) [0,1,2] (fun (n,_,b,_) => [(7,b),(8,nv n)]) (fun _ => []) (fun a => a.2.2.2) (fun (n,M,b,ux) => a ≤ n ∧ n ≤ a + k ∧ lsts (m + 2) a k = M ++ lsts (m + 2) n (a + k - n) ∧ (M = [] ∧ b = .nils ∧ ux = [] ∨ M ≠ [] ∧ b = .lst (svs M) M.length (.ch 1) ∧ ∃ j,ux = [.chain j 1 3,.chain M.length 1 25])) (fun (n,_,_,_) => a + k - n) (a,[],.nils,[]) (Nat.le_of_ble_eq_true rfl) rfl zG0 ⟨Nat.le_refl _,Nat.le_add_right _ _,by rw [Nat.add_sub_cancel_left];rfl,.inl ⟨rfl,rfl,rfl⟩⟩ ?_
 rintro ⟨n,M,b,ux⟩ ⟨hn,hn2,he,⟨rfl,rfl,rfl⟩ | ⟨hne,rfl,j,rfl⟩⟩ N hN
 ·obtain rfl:N = 0 :=hN
  conv=>whnf
  by_cases h:n < a + k
  ·have p :=ih (n + 1) (a + k - (n + 1)) (by omega)
   have hL :=fun i (h:i < (lsts (m + 1) (n + 1) (a + k - (n + 1))).length) => lsts_cons h
   have e2:a + k - n = (a + k - (n + 1)) + 1 :=by omega
   rw [e2,lsts_succ] at he
   have hlen :=congrArg List.length he
   rw [List.length_append,List.length_append,List.length_map] at hlen
   rw [show n + 1 + (a + k - (n + 1)) = a + k by omega] at p
   generalize lsts (m + 1) (n + 1) (a + k - (n + 1)) = L at p hL he hlen
   rw [show decide (Int.ofNat n < Int.ofNat (a + k)) = true from ltN_t h]
   conv=>whnf
   rw [show IntKind.i64.wrap (Int.ofNat n + 1) = Int.ofNat (n + 1) from wrapN (m :=n + 1) (by omega),show IntKind.i64.wrap (Int.ofNat (m + 2) - 1) = Int.ofNat (m + 1) from wrapSub1 (m :=m + 2) (by omega) (by omega)]
   have hn1:IntKind.i64.wrap (Int.ofNat n + 1) = Int.ofNat (n + 1) :=wrapN (m :=n + 1) (by omega)
   by_cases hl0:L = []
   ·rw [lV,if_pos hl0] at p
    conv=>whnf
    refine sym_pure hC (p) ?_
    conv=>whnf
    refine sym_unroll hE hS ?_
    conv=>whnf
    rw [hl0] at he
    exact ⟨(n + 1,[],.nils,[]),⟨by omega,by omega,he,.inl ⟨rfl,rfl,rfl⟩⟩,by show a + k - (n + 1) < a + k - n;omega,Nat.le_refl _,zG0⟩
   ·rw [lV,if_neg hl0] at p
    have ls :=svs_no L
    conv=>whnf
    refine sym_pure hC (p) ?_
    conv=>whnf
    refine sym_loopG hE hS (A :=Nat × List (List Int) × AV × List AObj) [0,1,2,8,9] (fun (i,_,b,_) => [(7,b),(10,nv i)]) (fun _ => []) (fun a => a.2.2.2) (fun (i,M,b,ux) => i ≤ L.length ∧ M = (L.take i).map (Int.ofNat n :: ·) ∧ (M = [] ∧ b = .nils ∧ ux = [] ∨ M ≠ [] ∧ b = .lst (svs M) M.length (.ch 1) ∧ ∃ j,ux = [.chain j 1 3,.chain M.length 1 25])) (fun (i,_,_,_) => L.length - i) (0,[],.nils,[]) (Nat.le_of_ble_eq_true rfl) rfl zG0 ⟨Nat.zero_le _,rfl,.inl ⟨rfl,rfl,rfl⟩⟩ ?_
    rintro ⟨i,M,b,ux⟩ ⟨hi,hM,⟨rfl,rfl,rfl⟩ | ⟨hne,rfl,j,rfl⟩⟩ N hN
    ·obtain rfl:N = 0 :=hN
     conv=>whnf
     by_cases h2:i < L.length
     ·refine bool_true (ltN_t h2) ?_
      conv=>whnf
      obtain ⟨x,r,hx,hr⟩ :=hL i h2
      have hn3 :=nth_svs1 (l :=L) h2
      rw [hx,show sv (x :: r) = nl (x :: r) from rfl] at hn3
      refine bool_true (inR_t (i :=i) (n :=L.length) h2) ?_
      conv=>whnf
      refine plan_as (nthP hn3) ?_
      conv=>whnf
      refine plan_as (pSrc_eq (e :=3) (ys :=ivs (x :: r)) (m :=(x :: r).length) (own :=.no) (l :=ivs (x :: r)) (by kernel_rfl) rfl (takeN_ivs _)) ?_
      conv=>whnf
      refine bool_true (allCells_ivs (x :: r)) ?_
      conv=>whnf
      refine bool_true (zT (show (0 + 1 + (r.length + 1)) * 8 ≤ 140737488355328 by omega)) ?_
      conv=>whnf
      refine bool_true (zT (show 0 + 1 + (r.length + 1) ≤ 9223372036854775807 by omega)) ?_
      conv=>whnf
      have hi1:IntKind.i64.wrap (Int.ofNat i + 1) = Int.ofNat (i + 1) :=wrapN (m :=i + 1) (by omega)
      exact ⟨(i + 1,[Int.ofNat n :: x :: r],.lst (svs [Int.ofNat n :: x :: r]) 1 (.ch 1),[.chain (0 + 1 + (r.length + 1)) 1 3,.chain 1 1 25]),⟨h2,by rw [take_map _ _ h2,← hM,hx];rfl,.inr ⟨by simp,rfl,_,rfl⟩⟩,by show L.length - (i + 1) < L.length - i;omega,Nat.zero_le _,(by refine ⟨rfl,rfl,rfl,rfl,rfl,rfl,2,rfl,?_,?_⟩ <;> repeat' (first | exact ⟨_,rfl,app_sv0 (Int.ofNat n :: x :: r) (el_ok _ _ _ _) 1⟩ | exact zZ | apply And.intro))⟩
     ·have:i = L.length :=by omega
      subst this
      rw [List.take_length] at hM
      exact absurd (List.map_eq_nil_iff.1 hM.symm) hl0
    ·obtain rfl:N = 2 :=hN
     have hMl :=congrArg List.length hM
     rw [List.length_map,List.length_take] at hMl
     conv=>whnf
     by_cases h2:i < L.length
     ·refine bool_true (ltN_t h2) ?_
      conv=>whnf
      obtain ⟨x,r,hx,hr⟩ :=hL i h2
      have hn3 :=nth_svs1 (l :=L) h2
      rw [hx,show sv (x :: r) = nl (x :: r) from rfl] at hn3
      refine bool_true (inR_t (i :=i) (n :=L.length) h2) ?_
      conv=>whnf
      refine plan_as (nthP hn3) ?_
      conv=>whnf
      refine plan_as (pSrc_eq (e :=3) (ys :=ivs (x :: r)) (m :=(x :: r).length) (own :=.no) (l :=ivs (x :: r)) (by kernel_rfl) rfl (takeN_ivs _)) ?_
      conv=>whnf
      refine bool_true (allCells_ivs (x :: r)) ?_
      conv=>whnf
      refine bool_true (zT (show (0 + 1 + (r.length + 1)) * 8 ≤ 140737488355328 by omega)) ?_
      conv=>whnf
      refine bool_true (zT (show 0 + 1 + (r.length + 1) ≤ 9223372036854775807 by omega)) ?_
      conv=>whnf
      refine bool_true (zT (show (M.length + (0 + 1)) * 24 ≤ 140737488355328 by omega)) ?_
      conv=>whnf
      refine bool_true (zT (show M.length + (0 + 1) ≤ 9223372036854775807 by omega)) ?_
      conv=>whnf
      refine bool_true (lenIs_svs M) ?_
      conv=>whnf
      refine bool_true (zT rfl) ?_
      conv=>whnf
      have hi1:IntKind.i64.wrap (Int.ofNat i + 1) = Int.ofNat (i + 1) :=wrapN (m :=i + 1) (by omega)
      exact ⟨(i + 1,M ++ [Int.ofNat n :: x :: r],.lst (svs (M ++ [Int.ofNat n :: x :: r])) (M ++ [Int.ofNat n :: x :: r]).length (.ch 1),[.chain j 1 3,.chain (M ++ [Int.ofNat n :: x :: r]).length 1 25]),⟨h2,by rw [take_map _ _ h2,← hM,hx],.inr ⟨by simp,rfl,_,rfl⟩⟩,by show L.length - (i + 1) < L.length - i;omega,Nat.le_refl _,(by refine ⟨rfl,rfl,rfl,rfl,rfl,rfl,2,rfl,?_,?_⟩ <;> repeat' (first | exact ⟨_,rfl,app_sv M (Int.ofNat n :: x :: r) (el_ok _ _ _ _) 1⟩ | exact app_L M _ | exact zZ | apply And.intro))⟩
     ·have:i = L.length :=by omega
      subst this
      rw [List.take_length] at hM
      refine bool_false (ltN_f h2) ?_
      conv=>whnf
      refine .inl ?_
      conv=>whnf
      exact ⟨(n + 1,M,.lst (svs M) M.length (.ch 1),[.chain j 1 3,.chain M.length 1 25]),⟨by omega,by omega,by rw [he,hM];rfl,.inr ⟨hne,rfl,_,rfl⟩⟩,by show a + k - (n + 1) < a + k - n;omega,Nat.zero_le _,zG2⟩
  ·rw [show decide (Int.ofNat n < Int.ofNat (a + k)) = false from ltN_f h]
   conv=>whnf
   refine .inl ?_
   conv=>whnf
   rw [he,show a + k - n = 0 by omega,lsts_none]
   exact ⟨_,rfl,Wk.refl _⟩
 ·obtain rfl:N = 2 :=hN
  conv=>whnf
  by_cases h:n < a + k
  ·have p :=ih (n + 1) (a + k - (n + 1)) (by omega)
   have hL :=fun i (h:i < (lsts (m + 1) (n + 1) (a + k - (n + 1))).length) => lsts_cons h
   have e2:a + k - n = (a + k - (n + 1)) + 1 :=by omega
   rw [e2,lsts_succ] at he
   have hlen :=congrArg List.length he
   rw [List.length_append,List.length_append,List.length_map] at hlen
   rw [show n + 1 + (a + k - (n + 1)) = a + k by omega] at p
   generalize lsts (m + 1) (n + 1) (a + k - (n + 1)) = L at p hL he hlen
   rw [show decide (Int.ofNat n < Int.ofNat (a + k)) = true from ltN_t h]
   conv=>whnf
   rw [show IntKind.i64.wrap (Int.ofNat n + 1) = Int.ofNat (n + 1) from wrapN (m :=n + 1) (by omega),show IntKind.i64.wrap (Int.ofNat (m + 2) - 1) = Int.ofNat (m + 1) from wrapSub1 (m :=m + 2) (by omega) (by omega)]
   have hn1:IntKind.i64.wrap (Int.ofNat n + 1) = Int.ofNat (n + 1) :=wrapN (m :=n + 1) (by omega)
   by_cases hl0:L = []
   ·rw [lV,if_pos hl0] at p
    conv=>whnf
    refine sym_pure hC (p) ?_
    conv=>whnf
    refine sym_unroll hE hS ?_
    conv=>whnf
    rw [hl0] at he
    exact ⟨(n + 1,M,.lst (svs M) M.length (.ch 1),[.chain j 1 3,.chain M.length 1 25]),⟨by omega,by omega,he,.inr ⟨hne,rfl,_,rfl⟩⟩,by show a + k - (n + 1) < a + k - n;omega,Nat.le_refl _,zG2⟩
   ·rw [lV,if_neg hl0] at p
    have ls :=svs_no L
    conv=>whnf
    refine sym_pure hC (p) ?_
    conv=>whnf
    refine sym_loopG hE hS (A :=Nat × List (List Int)) [0,1,2,8,9] (fun (i,M) => [(7,.lst (svs M) M.length (.ch 1)),(10,nv i)]) (fun (_,M) => [(1,.chain M.length 1 25)]) (fun _ => []) (fun (i,M') => i ≤ L.length ∧ M' = M ++ (L.take i).map (Int.ofNat n :: ·)) (fun (i,_) => L.length - i) (0,M) (Nat.le_of_ble_eq_true rfl) rfl zG2 ⟨Nat.zero_le _,(List.append_nil _).symm⟩ ?_
    rintro ⟨i,M'⟩ ⟨hi,hM⟩ N hN
    obtain rfl:N = 2 :=hN
    have hMl :=congrArg List.length hM
    rw [List.length_append,List.length_map,List.length_take] at hMl
    have ls' :=svs_no M'
    conv=>whnf
    by_cases h2:i < L.length
    ·refine bool_true (ltN_t h2) ?_
     conv=>whnf
     obtain ⟨x,r,hx,hr⟩ :=hL i h2
     have hn3 :=nth_svs1 (l :=L) h2
     rw [hx,show sv (x :: r) = nl (x :: r) from rfl] at hn3
     refine bool_true (inR_t (i :=i) (n :=L.length) h2) ?_
     conv=>whnf
     refine plan_as (nthP hn3) ?_
     conv=>whnf
     refine plan_as (pSrc_eq (e :=3) (ys :=ivs (x :: r)) (m :=(x :: r).length) (own :=.no) (l :=ivs (x :: r)) (by kernel_rfl) rfl (takeN_ivs _)) ?_
     conv=>whnf
     refine bool_true (allCells_ivs (x :: r)) ?_
     conv=>whnf
     refine bool_true (zT (show (0 + 1 + (r.length + 1)) * 8 ≤ 140737488355328 by omega)) ?_
     conv=>whnf
     refine bool_true (zT (show 0 + 1 + (r.length + 1) ≤ 9223372036854775807 by omega)) ?_
     conv=>whnf
     refine bool_true (zT (show (M'.length + (0 + 1)) * 24 ≤ 140737488355328 by omega)) ?_
     conv=>whnf
     refine bool_true (zT (show M'.length + (0 + 1) ≤ 9223372036854775807 by omega)) ?_
     conv=>whnf
     refine bool_true (lenIs_svs M') ?_
     conv=>whnf
     refine bool_true (zT rfl) ?_
     conv=>whnf
     have hi1:IntKind.i64.wrap (Int.ofNat i + 1) = Int.ofNat (i + 1) :=wrapN (m :=i + 1) (by omega)
     exact ⟨(i + 1,M' ++ [Int.ofNat n :: x :: r]),⟨h2,by rw [take_map _ _ h2,← List.append_assoc,← hM,hx]⟩,by show L.length - (i + 1) < L.length - i;omega,Nat.le_refl _,(by refine ⟨rfl,rfl,rfl,rfl,rfl,rfl,2,rfl,?_,?_⟩ <;> repeat' (first | exact ⟨_,rfl,app_sv M' (Int.ofNat n :: x :: r) (el_ok _ _ _ _) 1⟩ | exact app_L M' _ | exact zZ | apply And.intro))⟩
    ·have:i = L.length :=by omega
     subst this
     rw [List.take_length] at hM
     refine bool_false (ltN_f h2) ?_
     conv=>whnf
     refine .inl ?_
     conv=>whnf
     exact ⟨(n + 1,M',.lst (svs M') M'.length (.ch 1),[.chain j 1 3,.chain M'.length 1 25]),⟨by omega,by omega,by rw [he,hM,List.append_assoc],.inr ⟨by rw [hM];simp [hne],rfl,_,rfl⟩⟩,by show a + k - (n + 1) < a + k - n;omega,Nat.le_refl _,zG2⟩
  ·rw [show decide (Int.ofNat n < Int.ofNat (a + k)) = false from ltN_f h]
   conv=>whnf
   refine .inl ?_
   conv=>whnf
   rw [he,show a + k - n = 0 by omega,lsts_none,List.append_nil,lV,if_neg hne]
   exact ⟨_,rfl,wk_own rfl⟩
theorem lists_pure (m:Nat) (hm:m ≤ 9):∀ (a k:Nat),a + k ≤ 8 → Pure prog 78 [nv a,nv (a + k),nv m] (lV (lsts m a k)) :=by
 induction m with
 |zero => exact fun a k _ => lists_zero a k
 |succ m ih =>
  cases m with
  |zero => exact lists_one
  |succ m => exact fun a k h => lists_more m (ih (by omega)) a k h (by omega)
end
end Go.Abs.Seat

/-! The document's settings. -/
namespace Go.Abs.Seat
noncomputable section
open Go Go.Abs Go.Proofs.Tryz
set_option maxRecDepth 100000
set_option maxHeartbeats 40000000
attribute [local irreducible] IntKind.wrap pEq
def rsV (l:List (List Int)):AV :=.tup [if l = [] then .nils else sv (bstS l),.bool (if l = [] then false else true)]
theorem rsV_no (l:List (List Int)):Live noL (if l = [] then .nils else sv (bstS l)) :=setV_no l
theorem rSettings_pure {v:AV} {k x y:Nat} (hv:TV v k x y) (n d m:Nat) (hn:n ≤ 50000) (hnd:1 ≤ d ∧ d ≤ 50000) (hm:m ≤ 10800) (f:List Int) (of:feOk f) (u:Nat) (hu:u ≤ 10000) :
  Pure prog 23 [v,fv (Int.ofNat n) (Int.ofNat d),nv m,nl f,nv u] (rsV (okS f (lastV x y n d m) u (2 ^ f.length))) :=by
 have hk:∀ (q:Nat) (L:List (List Int)),L = lsts q 0 f.length → ∀ i,i < L.length → Pure prog 79 [v,fv (Int.ofNat n) (Int.ofNat d),nv m,nl f,sv (gs L i),nv u] (.bool (decide (kp (lastV x y n d m) u 0 (days f (gs L i))))) :=fun q L hL i hi => by
  subst hL
  have os:seOk f.length (gs (lsts q 0 f.length) i) :=asc_ok (by simpa using ((lsts_mem _ _ _ _).1 (gs_mem _ hi)).2)
  have hs:IL (sv (gs (lsts q 0 f.length) i)) (gs (lsts q 0 f.length) i) :=by
   rcases sv_cases (gs (lsts q 0 f.length) i) with ⟨e,e'⟩ | e'
   ·exact .inl ⟨e',e⟩
   ·exact .inr e'
  exact (keeps_both hv n d m hn hnd hm (.inr rfl) hs of os u hu decide_eq_true_iff).2
 have lf :=ivs_no f
 have fl :=of.2
 have lv :=rsV_no (okS f (lastV x y n d m) u (2 ^ f.length))
 generalize lastV x y n d m = T at *
 obtain ⟨xs,rfl,lx⟩ :=hv.sh
 refine zA fun S q pc hS hq hC hE => ?_
 conv=>whnf
 refine sym_loop hE hS (A :=Nat) [0,2,3,4,6] (fun q => [(12,nv q)]) (fun _ => []) (fun q => q ≤ f.length + 1 ∧ ∀ m,m < q → ∀ x,x ∈ lsts m 0 f.length → ¬ kp T u 0 (days f x)) (fun q => f.length + 1 - q) 0 rfl rfl zD ⟨Nat.zero_le _,fun _ h => absurd h (Nat.not_lt_zero _)⟩ ?_
 intro q ⟨hq1,hno⟩
 conv=>whnf
 by_cases h:q ≤ f.length
 ·rw [show decide (Int.ofNat q ≤ ↑f.length) = true from zT (by show (q:Int) ≤ (f.length:Int);omega)]
  conv=>whnf
  have p :=lists_pure q (by omega) 0 f.length (by omega)
  rw [Nat.zero_add] at p
  obtain ⟨L,hL⟩ : ∃ L,lsts q 0 f.length = L :=⟨_,rfl⟩
  have hkL :=hk q L hL.symm
  have ll :=lsts_len f.length q 0
  have kp8:2 ^ f.length ≤ 2 ^ 8 :=Nat.pow_le_pow_right (by omega) (by omega)
  have nx:(∀ x,x ∈ L → ¬ kp T u 0 (days f x)) → ∀ m,m < q + 1 → ∀ x,x ∈ lsts m 0 f.length → ¬ kp T u 0 (days f x) :=fun hx m hm x hxm => by
   by_cases e:m = q
   ·subst e;rw [hL] at hxm;exact hx x hxm
   ·exact hno m (by omega) x hxm
  have fb :=fun i => first_best (f :=f) (L :=T) (u :=u) (n :=q) (i :=i)
  rw [hL] at p ll fb
  have hq1:IntKind.i64.wrap (Int.ofNat q + 1) = Int.ofNat (q + 1) :=wrapN (m :=q + 1) (by omega)
  by_cases hl0:L = []
  ·rw [lV,if_pos hl0] at p
   refine sym_pure hC (p) ?_
   conv=>whnf
   refine sym_unroll hE hS ?_
   conv=>whnf
   rw [hq1]
   exact ⟨q + 1,⟨by omega,nx fun x hx => by rw [hl0] at hx;cases hx⟩,by omega,zD⟩
  ·rw [lV,if_neg hl0] at p
   have ls :=svs_no L
   refine sym_pure hC (p) ?_
   conv=>whnf
   refine sym_loop hE hS (A :=Nat) [0,2,3,4,6,12,13] (fun i => [(14,nv i)]) (fun _ => []) (fun i => i ≤ L.length ∧ ∀ j,j < i → ¬ kp T u 0 (days f (gs L j))) (fun i => L.length - i) 0 rfl rfl zD ⟨Nat.zero_le _,fun _ h => absurd h (Nat.not_lt_zero _)⟩ ?_
   intro i ⟨hi,hnj⟩
   conv=>whnf
   by_cases h2:i < L.length
   ·refine bool_true (ltN_t h2) ?_
    conv=>whnf
    have hn3 :=nth_svs1 (l :=L) h2
    have pk :=hkL i h2
    have hi1:IntKind.i64.wrap (Int.ofNat i + 1) = Int.ofNat (i + 1) :=wrapN (m :=i + 1) (by omega)
    have fbi :=fb i h2
    rcases sv_cases (gs L i) with ⟨e,e'⟩ | e'
    ·rw [e'] at hn3 pk
     refine bool_true (inR_t (i :=i) (n :=L.length) h2) ?_
     conv=>whnf
     refine plan_as (nthP (hn3)) ?_
     conv=>whnf
     refine sym_pure hC (pk) ?_
     conv=>whnf
     refine zd hS ?_
     conv=>whnf
     by_cases h3:kp T u 0 (days f (gs L i))
     ·refine bool_true (zT h3) ?_
      conv=>whnf
      refine bool_true (inR_t (i :=i) (n :=L.length) h2) ?_
      conv=>whnf
      refine plan_as (nthP (hn3)) ?_
      conv=>whnf
      obtain ⟨h4,h5⟩ :=fbi h3 hnj hno
      rw [rsV,if_neg h4,if_neg h4,h5,e']
      exact ⟨_,rfl,Wk.refl _⟩
     ·refine bool_false (zF h3) ?_
      conv=>whnf
      exact ⟨i + 1,⟨h2,upto hnj h3⟩,by show L.length - (i + 1) < L.length - i;omega,(by refine ⟨rfl,rfl,rfl,rfl,?_,?_⟩ <;> repeat' (first | exact congrArg (fun z => some (AV.int .i64 z)) hi1 | exact zZ | apply And.intro))⟩
    ·have lq :=ivs_no (gs L i)
     rw [e'] at hn3 pk
     refine bool_true (inR_t (i :=i) (n :=L.length) h2) ?_
     conv=>whnf
     refine plan_as (nthP (hn3)) ?_
     conv=>whnf
     refine sym_pure hC (pk) ?_
     conv=>whnf
     refine zd hS ?_
     conv=>whnf
     by_cases h3:kp T u 0 (days f (gs L i))
     ·refine bool_true (zT h3) ?_
      conv=>whnf
      refine bool_true (inR_t (i :=i) (n :=L.length) h2) ?_
      conv=>whnf
      refine plan_as (nthP (hn3)) ?_
      conv=>whnf
      obtain ⟨h4,h5⟩ :=fbi h3 hnj hno
      rw [rsV,if_neg h4,if_neg h4,h5,e']
      exact ⟨_,rfl,Wk.refl _⟩
     ·refine bool_false (zF h3) ?_
      conv=>whnf
      exact ⟨i + 1,⟨h2,upto hnj h3⟩,by show L.length - (i + 1) < L.length - i;omega,(by refine ⟨rfl,rfl,rfl,rfl,?_,?_⟩ <;> repeat' (first | exact congrArg (fun z => some (AV.int .i64 z)) hi1 | exact zZ | apply And.intro))⟩
   ·refine bool_false (ltN_f h2) ?_
    conv=>whnf
    refine ⟨q + 1,⟨by omega,nx fun x hx => ?_⟩,by show f.length + 1 - (q + 1) < f.length + 1 - q;omega,(by refine ⟨rfl,rfl,rfl,rfl,?_,?_⟩ <;> repeat' (first | exact congrArg (fun z => some (AV.int .i64 z)) hq1 | exact zZ | apply And.intro))⟩
    obtain ⟨j,hj,e⟩ :=List.mem_iff_getElem.1 hx
    have :=hnj j (by omega)
    rwa [show gs L j = x by rw [← e];simp [gs,List.getD,hj]] at this
 ·rw [show decide (Int.ofNat q ≤ ↑f.length) = false from zF (by show ¬ (q:Int) ≤ (f.length:Int);omega)]
  conv=>whnf
  have e :=none_best (f :=f) (L :=T) (u :=u) fun m hm => hno m (by omega)
  rw [rsV,if_pos e,if_pos e]
  exact ⟨_,rfl,Wk.refl _⟩
end
end Go.Abs.Seat
