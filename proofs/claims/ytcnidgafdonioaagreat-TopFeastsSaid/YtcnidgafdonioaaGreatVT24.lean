/-
  The best settings of a hand.
-/
import Derived.Test.YtcnidgafdonioaaGreatVU7
import Derived.Test.YtcnidgafdonioaaGreatVU4
namespace Go.Abs.Seat
noncomputable section
open Go Go.Abs Go.Proofs.Tryz
set_option maxRecDepth 100000
set_option maxHeartbeats 4000000
attribute [local irreducible] IntKind.wrap pEq
def subs (s:Nat):Nat → List Int
 | 0 => []
 |n + 1 => if s / 2 ^ n % 2 = 1 then subs s n ++ [Int.ofNat n] else subs s n
theorem subs_len (s:Nat):∀ n,(subs s n).length ≤ n
 | 0 => Nat.zero_le _
 |n + 1 => by
  have :=subs_len s n
  rw [subs]
  split
  ·rw [List.length_append];simp only [List.length_cons,List.length_nil];omega
  ·omega
theorem bit_eq {s n:Nat} (hs:s < 9223372036854775808) (hn:n ≤ 8):IntKind.i64.wrap (BitVec.ofInt IntKind.i64.bits ((Int.ofNat s).fdiv (2 ^ (min (Int.ofNat n).toNat IntKind.i64.bits))) &&& BitVec.ofInt IntKind.i64.bits 1).toNat = 1 ↔ s / 2 ^ n % 2 = 1 :=by
 have hb:IntKind.i64.bits = 64 :=rfl
 have e:min (Int.ofNat n).toNat IntKind.i64.bits = n :=by
  rw [hb];simp only [Int.ofNat_eq_natCast];omega
 have e2:(2:Int) ^ n = Int.ofNat (2 ^ n) :=by simp
 have e3:(Int.ofNat s).fdiv (Int.ofNat (2 ^ n)) = Int.ofNat (s / 2 ^ n) :=by
  exact (Int.fdiv_eq_ediv_of_nonneg (Int.ofNat s) (Int.natCast_nonneg (2 ^ n))).trans rfl
 rw [e,e2,e3]
 have hq:s / 2 ^ n < 9223372036854775808 :=Nat.lt_of_le_of_lt (Nat.div_le_self _ _) hs
 generalize s / 2 ^ n = q at *
 have e4:(BitVec.ofInt 64 (Int.ofNat q) &&& BitVec.ofInt 64 1).toNat = q % 2 :=by
  have h1:(BitVec.ofInt 64 (Int.ofNat q)).toNat = q :=by
   rw [BitVec.toNat_ofInt];simp only [Int.ofNat_eq_natCast];omega
  rw [BitVec.toNat_and,h1,show (BitVec.ofInt 64 1).toNat = 1 from rfl]
  exact Nat.and_one_is_mod q
 rw [show (BitVec.ofInt IntKind.i64.bits (Int.ofNat q) &&& BitVec.ofInt IntKind.i64.bits 1).toNat = q % 2 from e4]
 rw [show IntKind.i64.wrap ((q % 2:Nat):Int) = Int.ofNat (q % 2) from wrapN (m :=q % 2) (by omega)]
 simp only [Int.ofNat_eq_natCast]
 omega
theorem _root_.Go.Abs.WkV.int {a b:Int} (e:a = b):WkV (iv a) (iv b) :=e ▸ WkV.refl _
theorem _root_.Go.Abs.WkV.eq {a b:AV} (e:a = b):WkV a b :=e ▸ WkV.refl _
theorem ivs_app (l:List Int) (q:Int):ivs (l ++ [q]) = ivs l ++ [iv q] :=by
 induction l with
 |nil => rfl
 |cons x l ih => simp only [List.cons_append,ivs];exact congrArg _ ih
theorem app_I (l:List Int) (q:Int) (c:Nat):AV.lst (ivs l ++ [iv q]) (l.length + (0 + 1)) (.ch c) = .lst (ivs (l ++ [q])) (l ++ [q]).length (.ch c) :=by
 rw [ivs_app,List.length_append];rfl
theorem app_J (l:List Int) (q:Int):AObj.chain (l.length + (0 + 1)) 1 3 = .chain (l ++ [q]).length 1 3 :=by
 rw [List.length_append];rfl
theorem lenIs_ivs (l:List Int):lenIs (ivs l) (l.length * 1) = true :=by
 have :=lenIs_eq (ivs l)
 rw [ivs_len] at this
 rw [Nat.mul_one];exact this
theorem pow_eq {n:Nat} (hn:n ≤ 8):IntKind.i64.wrap (1 * 2 ^ min (n:Int).toNat IntKind.i64.bits) = Int.ofNat (2 ^ n) :=by
 have hp:2 ^ n ≤ 256 :=Nat.pow_le_pow_right (n :=2) (by omega) hn
 have e:min (n:Int).toNat IntKind.i64.bits = n :=by
  have:IntKind.i64.bits = 64 :=rfl
  rw [this];omega
 rw [e,Int.one_mul]
 have e2:(2:Int) ^ n = Int.ofNat (2 ^ n) :=by simp
 rw [e2]
 exact wrapN (m :=2 ^ n) (by omega)
theorem subs_lt (s:Nat):∀ (n i:Nat),i < (subs s n).length → 0 ≤ gi (subs s n) i ∧ gi (subs s n) i < n
 | 0,_,h => absurd h (Nat.not_lt_zero _)
 |n + 1,i,h => by
  rw [subs] at h ⊢
  split
  ·rename_i hb
   rw [if_pos hb] at h
   by_cases hi:i < (subs s n).length
   ·rw [show gi (subs s n ++ [Int.ofNat n]) i = gi (subs s n) i from by simp [gi,List.getD,List.getElem?_append_left hi]]
    have :=subs_lt s n i hi
    omega
   ·have:i = (subs s n).length :=by simp at h;omega
    subst this
    rw [show gi (subs s n ++ [Int.ofNat n]) (subs s n).length = Int.ofNat n from by simp [gi,List.getD]]
    simp only [Int.ofNat_eq_natCast];omega
  ·rename_i hb
   rw [if_neg hb] at h
   have :=subs_lt s n i h
   omega
theorem subs_up (s:Nat):∀ (n i:Nat),i + 1 < (subs s n).length → gi (subs s n) i < gi (subs s n) (i + 1)
 | 0,_,h => absurd h (Nat.not_lt_zero _)
 |n + 1,i,h => by
  rw [subs] at h ⊢
  split
  ·rename_i hb
   rw [if_pos hb] at h
   have hi0:i < (subs s n).length :=by simp at h;omega
   rw [show gi (subs s n ++ [Int.ofNat n]) i = gi (subs s n) i from by simp [gi,List.getD,List.getElem?_append_left hi0]]
   by_cases hi:i + 1 < (subs s n).length
   ·rw [show gi (subs s n ++ [Int.ofNat n]) (i + 1) = gi (subs s n) (i + 1) from by simp [gi,List.getD,List.getElem?_append_left hi]]
    exact subs_up s n i hi
   ·have e:i + 1 = (subs s n).length :=by omega
    rw [e,show gi (subs s n ++ [Int.ofNat n]) (subs s n).length = Int.ofNat n from by simp [gi,List.getD]]
    exact (subs_lt s n i hi0).2
  ·rename_i hb
   rw [if_neg hb] at h
   exact subs_up s n i h
theorem subs_ok (s n:Nat):seOk n (subs s n) :=fun i hi => by
 have :=subs_lt s n i hi
 refine ⟨by omega,fun h0 => ?_⟩
 have :=subs_up s n (i - 1) (by omega)
 rwa [show i - 1 + 1 = i by omega] at this
instance (L u t l):Decidable (kp L u t l) :=Classical.propDecidable _
def okS (f:List Int) (L u:Nat):Nat → List (List Int)
 | 0 => []
 |s + 1 => if kp L u 0 (days f (subs s f.length)) then okS f L u s ++ [subs s f.length] else okS f L u s
theorem okS_len (f:List Int) (L u:Nat):∀ s,(okS f L u s).length ≤ s
 | 0 => Nat.zero_le _
 |s + 1 => by
  have :=okS_len f L u s
  rw [okS]
  split
  ·rw [List.length_append];simp only [List.length_cons,List.length_nil];omega
  ·omega
theorem svs_app (l:List (List Int)) (q:List Int):svs (l ++ [q]) = svs l ++ [sv q] :=by
 induction l with
 |nil => rfl
 |cons x l ih => simp only [List.cons_append,svs];exact congrArg _ ih
theorem app_K {l:List (List Int)} {q:List Int} {v:AV} (e:sv q = v) (c:Nat):AV.lst (svs l ++ [v]) (l.length + (0 + 1)) (.ch c) = .lst (svs (l ++ [q])) (l ++ [q]).length (.ch c) :=by
 rw [svs_app,List.length_append,e];rfl
theorem app_L (l:List (List Int)) (q:List Int):AObj.chain (l.length + (0 + 1)) 1 23 = .chain (l ++ [q]).length 1 23 :=by
 rw [List.length_append];rfl
theorem app_K0 {q:List Int} {v:AV} (e:sv q = v) (c:Nat):AV.lst [v] (0 + 1) (.ch c) = .lst (svs ([] ++ [q])) ([] ++ [q]).length (.ch c) :=by
 rw [← e];rfl
theorem app_L0 (q:List Int):AObj.chain (0 + 1) 1 23 = .chain ([] ++ [q]).length 1 23 :=rfl
theorem lenIs_svs (l:List (List Int)):lenIs (svs l) (l.length * 1) = true :=by
 have :=lenIs_eq (svs l)
 rw [svs_len] at this
 rw [Nat.mul_one];exact this
theorem wkl_svs:∀ l,wkl (svs l) = svs l
 | [] => rfl
 |x :: r => by
  rw [svs,wkl,wkl_svs r]
  rcases sv_cases x with ⟨_,e⟩ | e
  ·rw [e];rfl
  ·rw [e];simp only [wk,wkl_ivs]
theorem bestW (l:List (List Int)) (c:Nat) (hl:l.length < 4611686018427387904) (hx:∀ x,x ∈ l → x.length < 4611686018427387904) :
  Pure prog 81 [.lst (svs l) l.length (.ch c),.func (.func 82) [] []] (.tup [sv (bstS l),.bool (decide ((l.length:Int) > 0))]) :=by
 refine Pure.ofWk ?_
 have e:wkl [.lst (svs l) l.length (.ch c),.func (.func 82) [] []] = [sl l,.func (.func 82) [] []] :=by
  simp only [wkl,wk,wkl_svs]
 rw [e]
 exact bestL_pure l hl hx
theorem bestN:Pure prog 81 [.nils,.func (.func 82) [] []] (.tup [.nils,.bool false]) :=by
 refine pure_sym hE rfl (by repeat' (first | exact trivial | assumption | exact flat_no _ | exact (fun _ h => nomatch h) | apply And.intro)) (by repeat' (first | exact trivial | assumption | exact flat_no _ | exact (fun _ h => nomatch h) | apply And.intro)) fun S q pc hS hq hC hE => ?_
 conv => whnf
 refine sym_unroll hE hS ?_
 conv => whnf
 exact ⟨_,rfl,Wk.refl _⟩
theorem okS_mem (f:List Int) (L u:Nat) {x:List Int}:∀ {s},x ∈ okS f L u s → x.length ≤ f.length
 | 0,h => nomatch h
 |s + 1,h => by
  rw [okS] at h
  split at h
  ·rcases List.mem_append.1 h with h | h
   ·exact okS_mem f L u h
   ·rw [List.mem_singleton.1 h];exact subs_len _ _
  ·exact okS_mem f L u h
def setV (l:List (List Int)):AV :=.tup [if l = [] then .nils else sv (bstS l),iv (if l = [] then 5 else 0)]
theorem setV_no (l:List (List Int)):Live noL (if l = [] then .nils else sv (bstS l)) :=by
 split
 ·trivial
 ·exact sv_no _
theorem settings_pure {v:AV} {k x y:Nat} (hv:TV v k x y) (n d m:Nat) (hn:n ≤ 50000) (hnd:1 ≤ d ∧ d ≤ 50000) (hm:m ≤ 10800) (f:List Int) (of:feOk f) (u:Nat) (hu:u ≤ 10000) :
  Pure prog 30 [v,fv (Int.ofNat n) (Int.ofNat d),nv m,nl f,nv u] (setV (okS f (lastV x y n d m) u (2 ^ f.length))) :=by
 have hk:∀ s,Pure prog 80 [nv (lastV x y n d m),nl f,sv (subs s f.length),nv u] (.bool (decide (kp (lastV x y n d m) u 0 (days f (subs s f.length))))) :=fun s => by
  have hd :=Days.of of (subs_ok s f.length)
  rcases sv_cases (subs s f.length) with ⟨e,e'⟩ | e'
  ·rw [e',e]
   exact keeps_nil (.inr rfl) _ u hu decide_eq_true_iff
  ·rw [e']
   exact keeps_pure f _ hd _ u (lastV_le ..) hu decide_eq_true_iff
 have lf :=ivs_no f
 have fl :=of.2
 have eF:Pure prog 76 [nl f] (.bool true) :=areFeasts_pure f (by omega) ⟨fun _ => of,fun _ => rfl⟩
 have hw :=wrongBy_pure hv n d hn hnd
 have iT :=hv.isT
 obtain ⟨q1,q2,q3⟩ :=dif_le (n :=n) (d :=d) (x :=x) (y :=y) hn hnd.2 hv.bx.2 hv.by_.2
 have hl :=wlasts_pure x y n d m q1 q2 q3 hm
 obtain ⟨xs,rfl,lx⟩ :=hv.sh
 have lv :=setV_no (okS f (lastV x y n d m) u (2 ^ f.length))
 refine pure_sym hE rfl (by repeat' (first | exact trivial | assumption | exact flat_no _ | exact (fun _ h => nomatch h) | apply And.intro)) (by repeat' (first | exact trivial | assumption | exact flat_no _ | exact (fun _ h => nomatch h) | apply And.intro)) fun S q pc hS hq hC hE => ?_
 conv => whnf
 refine sym_pure hC (iT) ?_
 conv => whnf
 refine sym_pure hC (isFraction_pure _ _) ?_
 conv => whnf
 rw [decide_eq_true (isF_N hn hnd.1 hnd.2)]
 conv => whnf
 refine sym_pure hC (isLimit_pure _) ?_
 conv => whnf
 rw [decide_eq_true (show (0:Int) ≤ Int.ofNat m ∧ Int.ofNat m ≤ 10800 by simp only [Int.ofNat_eq_natCast];omega)]
 conv => whnf
 refine sym_pure hC (eF) ?_
 conv => whnf
 refine sym_pure hC (isTurn_pure _) ?_
 conv => whnf
 rw [decide_eq_true (show (0:Int) ≤ Int.ofNat u ∧ Int.ofNat u ≤ 10000 by simp only [Int.ofNat_eq_natCast];omega)]
 conv => whnf
 refine sym_pure hC (hw) ?_
 conv => whnf
 refine sym_pure hC (hl) ?_
 conv => whnf
 rw [pow_eq fl]
 generalize lastV x y n d m = L at *
 have hp:2 ^ f.length ≤ 256 :=Nat.pow_le_pow_right (n :=2) (by omega) fl
 refine sym_loopG hE hS (A :=Nat × AV × List AObj) [3,4,12,49] (fun (s,a,_) => [(13,a),(50,nv s)]) (fun _ => []) (fun a => a.2.2)
  (fun (s,a,ux) => s ≤ 2 ^ f.length ∧ (okS f L u s = [] ∧ a = .nils ∧ ux = [] ∨ okS f L u s ≠ [] ∧ a = .lst (svs (okS f L u s)) (okS f L u s).length (.ch 1) ∧ ux = [.chain (okS f L u s).length 1 23] ∨ okS f L u s ≠ [] ∧ ∃ j,a = .lst (svs (okS f L u s)) (okS f L u s).length (.ch 2) ∧ ux = [.chain j 1 3,.chain (okS f L u s).length 1 23])) (fun (s,_,_) => 2 ^ f.length - s) (0,.nils,[]) (Nat.le_of_ble_eq_true rfl) rfl (by refine ⟨rfl,rfl,rfl,rfl,rfl,rfl,1,rfl,?_,?_⟩ <;> repeat' (first | exact trivial | exact rfl | exact ⟨_,rfl,WkV.refl _⟩ | exact ⟨_,rfl,WkV.own _ _ _⟩ | exact Nat.zero_le _ | exact Nat.le_of_ble_eq_true rfl | exact bdl_no (by assumption) | exact bdl_no (flat_no _) | exact bdl_no (ivs_no _) | exact bdl_no (svs_no _) | exact Nat.max_le.2 ⟨Nat.le_of_ble_eq_true rfl,bdl_no (ivs_no _)⟩ | exact Nat.max_le.2 ⟨Nat.le_of_ble_eq_true rfl,bdl_no (svs_no _)⟩ | apply And.intro)) ⟨Nat.zero_le _,.inl ⟨rfl,rfl,rfl⟩⟩ ?_
 rintro ⟨s,a,ux⟩ ⟨hs,⟨e0,rfl,rfl⟩ | ⟨hok,rfl,rfl⟩ | ⟨hok,j,rfl,rfl⟩⟩ M hM
 ·obtain rfl:M = 1 :=hM
  conv => whnf
  by_cases h:s < 2 ^ f.length
  ·rw [show decide (Int.ofNat s < Int.ofNat (2 ^ f.length)) = true from decide_eq_true (by show (s:Int) < ((2 ^ f.length:Nat):Int);omega)]
   conv => whnf
   refine sym_loopG hE hS (A :=Nat × AV × List AObj) [3,4,12,13,14,49,50,54] (fun (i,b,_) => [(15,b),(55,nv i)]) (fun _ => []) (fun a => a.2.2) (fun (i,b,uy) => i ≤ f.length ∧ (subs s i = [] ∧ b = .nils ∧ uy = [] ∨ subs s i ≠ [] ∧ b = .lst (ivs (subs s i)) (subs s i).length (.ch 1) ∧ uy = [.chain (subs s i).length 1 3])) (fun (i,_,_) => f.length - i) (0,.nils,[]) (Nat.le_of_ble_eq_true rfl) rfl (by refine ⟨rfl,rfl,rfl,rfl,rfl,rfl,1,rfl,?_,?_⟩ <;> repeat' (first | exact trivial | exact rfl | exact ⟨_,rfl,WkV.refl _⟩ | exact ⟨_,rfl,WkV.own _ _ _⟩ | exact Nat.zero_le _ | exact Nat.le_of_ble_eq_true rfl | exact bdl_no (by assumption) | exact bdl_no (flat_no _) | exact bdl_no (ivs_no _) | exact bdl_no (svs_no _) | exact Nat.max_le.2 ⟨Nat.le_of_ble_eq_true rfl,bdl_no (ivs_no _)⟩ | exact Nat.max_le.2 ⟨Nat.le_of_ble_eq_true rfl,bdl_no (svs_no _)⟩ | apply And.intro)) ⟨Nat.zero_le _,.inl ⟨rfl,rfl,rfl⟩⟩ ?_
   rintro ⟨i,b,uy⟩ ⟨hi,⟨e1,rfl,rfl⟩ | ⟨hne,rfl,rfl⟩⟩ N hN
   ·obtain rfl:N = 1 :=hN
    conv => whnf
    by_cases h2:i < f.length
    ·refine bool_true (ltN_t h2) ?_
     conv => whnf
     have e2:subs s (i + 1) = if s / 2 ^ i % 2 = 1 then subs s i ++ [Int.ofNat i] else subs s i :=rfl
     have hi1:IntKind.i64.wrap (Int.ofNat i + 1) = Int.ofNat (i + 1) :=wrapN (m :=i + 1) (by omega)
     by_cases hb:s / 2 ^ i % 2 = 1
     ·refine bool_true (decide_eq_true ((bit_eq (s :=s) (n :=i) (by omega) (by omega)).2 hb)) ?_
      conv => whnf
      rw [if_pos hb,e1] at e2
      exact ⟨(i + 1,.lst (ivs (subs s (i + 1))) (subs s (i + 1)).length (.ch 1),[.chain (subs s (i + 1)).length 1 3]),⟨h2,.inr ⟨by rw [e2];simp,rfl,rfl⟩⟩,by show f.length - (i + 1) < f.length - i;omega,Nat.zero_le _,by show AtG _ _ _ _ _ _ _ [(15,.lst (ivs (subs s (i + 1))) (subs s (i + 1)).length (.ch 1)),(55,nv (i + 1))] _ [.chain (subs s (i + 1)).length 1 3] _;rw [e2];exact (by refine ⟨rfl,rfl,rfl,rfl,rfl,rfl,2,rfl,?_,?_⟩ <;> repeat' (first | exact trivial | exact rfl | exact ⟨_,rfl,WkV.refl _⟩ | exact ⟨_,rfl,WkV.own _ _ _⟩ | exact Nat.zero_le _ | exact ⟨_,rfl,WkV.int hi1⟩ | exact Nat.le_of_ble_eq_true rfl | exact bdl_no (by assumption) | exact bdl_no (flat_no _) | exact bdl_no (ivs_no _) | exact bdl_no (svs_no _) | exact Nat.max_le.2 ⟨Nat.le_of_ble_eq_true rfl,bdl_no (ivs_no _)⟩ | exact Nat.max_le.2 ⟨Nat.le_of_ble_eq_true rfl,bdl_no (svs_no _)⟩ | apply And.intro))⟩
     ·refine bool_false (decide_eq_false fun k => hb ((bit_eq (s :=s) (n :=i) (by omega) (by omega)).1 k)) ?_
      conv => whnf
      rw [if_neg hb,e1] at e2
      exact ⟨(i + 1,.nils,[]),⟨h2,.inl ⟨e2,rfl,rfl⟩⟩,by show f.length - (i + 1) < f.length - i;omega,Nat.le_refl _,(by refine ⟨rfl,rfl,rfl,rfl,rfl,rfl,1,rfl,?_,?_⟩ <;> repeat' (first | exact trivial | exact rfl | exact ⟨_,rfl,WkV.refl _⟩ | exact ⟨_,rfl,WkV.own _ _ _⟩ | exact Nat.zero_le _ | exact ⟨_,rfl,WkV.int hi1⟩ | exact Nat.le_of_ble_eq_true rfl | exact bdl_no (by assumption) | exact bdl_no (flat_no _) | exact bdl_no (ivs_no _) | exact bdl_no (svs_no _) | exact Nat.max_le.2 ⟨Nat.le_of_ble_eq_true rfl,bdl_no (ivs_no _)⟩ | exact Nat.max_le.2 ⟨Nat.le_of_ble_eq_true rfl,bdl_no (svs_no _)⟩ | apply And.intro))⟩
    ·refine bool_false (ltN_f h2) ?_
     conv => whnf
     refine .inr ⟨[(15,.nils),(55,nv i)],[],[],1,rfl,Nat.le_refl _,(by refine ⟨rfl,rfl,rfl,rfl,rfl,rfl,1,rfl,?_,?_⟩ <;> repeat' (first | exact trivial | exact rfl | exact ⟨_,rfl,WkV.refl _⟩ | exact ⟨_,rfl,WkV.own _ _ _⟩ | exact Nat.zero_le _ | exact Nat.le_of_ble_eq_true rfl | exact bdl_no (by assumption) | exact bdl_no (flat_no _) | exact bdl_no (ivs_no _) | exact bdl_no (svs_no _) | exact Nat.max_le.2 ⟨Nat.le_of_ble_eq_true rfl,bdl_no (ivs_no _)⟩ | exact Nat.max_le.2 ⟨Nat.le_of_ble_eq_true rfl,bdl_no (svs_no _)⟩ | apply And.intro)),?_⟩
     conv => whnf
     have hi0:i = f.length :=by omega
     subst hi0
     have e5:sv (subs s f.length) = .nils :=by rw [e1];rfl
     have hk0 :=hk s
     rw [e5] at hk0
     refine sym_pure hC (hk0) ?_
     conv => whnf
     have e3:okS f L u (s + 1) = if kp L u 0 (days f (subs s f.length)) then okS f L u s ++ [subs s f.length] else okS f L u s :=rfl
     have hs1:IntKind.i64.wrap (Int.ofNat s + 1) = Int.ofNat (s + 1) :=wrapN (m :=s + 1) (by omega)
     by_cases h3:kp L u 0 (days f (subs s f.length))
     ·rw [if_pos h3] at e3
      refine bool_true (decide_eq_true h3) ?_
      conv => whnf
      rw [e0] at e3
      exact ⟨(s + 1,.lst (svs (okS f L u (s + 1))) (okS f L u (s + 1)).length (.ch 1),[.chain (okS f L u (s + 1)).length 1 23]),⟨h,.inr (.inl ⟨by rw [e3];first | exact hok | simp,rfl,rfl⟩)⟩,by show 2 ^ f.length - (s + 1) < 2 ^ f.length - s;omega,by simp only [List.length_cons,List.length_nil];omega,by show AtG _ _ _ _ _ _ _ [(13,.lst (svs (okS f L u (s + 1))) (okS f L u (s + 1)).length (.ch 1)),(50,nv (s + 1))] _ [.chain (okS f L u (s + 1)).length 1 23] _;rw [e3];exact (by refine ⟨rfl,rfl,rfl,rfl,rfl,rfl,2,rfl,?_,?_⟩ <;> repeat' (first | exact trivial | exact rfl | exact ⟨_,rfl,WkV.refl _⟩ | exact ⟨_,rfl,WkV.own _ _ _⟩ | exact Nat.zero_le _ | exact ⟨_,rfl,WkV.int hs1⟩ | exact ⟨_,rfl,WkV.eq (app_K e5 _)⟩ | exact ⟨_,rfl,WkV.eq (app_K0 e5 _)⟩ | exact app_L _ _ | exact app_L0 _ | exact Nat.le_of_ble_eq_true rfl | exact bdl_no (by assumption) | exact bdl_no (flat_no _) | exact bdl_no (ivs_no _) | exact bdl_no (svs_no _) | exact Nat.max_le.2 ⟨Nat.le_of_ble_eq_true rfl,bdl_no (ivs_no _)⟩ | exact Nat.max_le.2 ⟨Nat.le_of_ble_eq_true rfl,bdl_no (svs_no _)⟩ | apply And.intro))⟩
     ·rw [if_neg h3] at e3
      refine bool_false (decide_eq_false h3) ?_
      conv => whnf
      exact ⟨(s + 1,.nils,[]),⟨h,.inl ⟨e3.trans e0,rfl,rfl⟩⟩,by show 2 ^ f.length - (s + 1) < 2 ^ f.length - s;omega,Nat.le_refl _,(by refine ⟨rfl,rfl,rfl,rfl,rfl,rfl,1,rfl,?_,?_⟩ <;> repeat' (first | exact trivial | exact rfl | exact ⟨_,rfl,WkV.refl _⟩ | exact ⟨_,rfl,WkV.own _ _ _⟩ | exact Nat.zero_le _ | exact ⟨_,rfl,WkV.int hs1⟩ | exact Nat.le_of_ble_eq_true rfl | exact bdl_no (by assumption) | exact bdl_no (flat_no _) | exact bdl_no (ivs_no _) | exact bdl_no (svs_no _) | exact Nat.max_le.2 ⟨Nat.le_of_ble_eq_true rfl,bdl_no (ivs_no _)⟩ | exact Nat.max_le.2 ⟨Nat.le_of_ble_eq_true rfl,bdl_no (svs_no _)⟩ | apply And.intro))⟩
   ·obtain rfl:N = 2 :=hN
    have sn :=subs_len s i
    conv => whnf
    by_cases h2:i < f.length
    ·refine bool_true (ltN_t h2) ?_
     conv => whnf
     have e2:subs s (i + 1) = if s / 2 ^ i % 2 = 1 then subs s i ++ [Int.ofNat i] else subs s i :=rfl
     have hi1:IntKind.i64.wrap (Int.ofNat i + 1) = Int.ofNat (i + 1) :=wrapN (m :=i + 1) (by omega)
     by_cases hb:s / 2 ^ i % 2 = 1
     ·refine bool_true (decide_eq_true ((bit_eq (s :=s) (n :=i) (by omega) (by omega)).2 hb)) ?_
      conv => whnf
      refine bool_true (decide_eq_true (show ((subs s i).length + (0 + 1)) * 8 ≤ 140737488355328 by omega)) ?_
      conv => whnf
      refine bool_true (decide_eq_true (show (subs s i).length + (0 + 1) ≤ 9223372036854775807 by omega)) ?_
      conv => whnf
      refine bool_true (lenIs_ivs (subs s i)) ?_
      conv => whnf
      refine bool_true (decide_eq_true rfl) ?_
      conv => whnf
      rw [if_pos hb] at e2
      exact ⟨(i + 1,.lst (ivs (subs s (i + 1))) (subs s (i + 1)).length (.ch 1),[.chain (subs s (i + 1)).length 1 3]),⟨h2,.inr ⟨by rw [e2];simp,rfl,rfl⟩⟩,by show f.length - (i + 1) < f.length - i;omega,Nat.le_refl _,by show AtG _ _ _ _ _ _ _ [(15,.lst (ivs (subs s (i + 1))) (subs s (i + 1)).length (.ch 1)),(55,nv (i + 1))] _ [.chain (subs s (i + 1)).length 1 3] _;rw [e2];exact (by refine ⟨rfl,rfl,rfl,rfl,rfl,rfl,2,rfl,?_,?_⟩ <;> repeat' (first | exact trivial | exact rfl | exact ⟨_,rfl,WkV.refl _⟩ | exact ⟨_,rfl,WkV.own _ _ _⟩ | exact Nat.zero_le _ | exact ⟨_,rfl,WkV.int hi1⟩ | exact ⟨_,rfl,WkV.eq (app_I _ _ _)⟩ | exact app_J _ _ | exact Nat.le_of_ble_eq_true rfl | exact bdl_no (by assumption) | exact bdl_no (flat_no _) | exact bdl_no (ivs_no _) | exact bdl_no (svs_no _) | exact Nat.max_le.2 ⟨Nat.le_of_ble_eq_true rfl,bdl_no (ivs_no _)⟩ | exact Nat.max_le.2 ⟨Nat.le_of_ble_eq_true rfl,bdl_no (svs_no _)⟩ | apply And.intro))⟩
     ·refine bool_false (decide_eq_false fun k => hb ((bit_eq (s :=s) (n :=i) (by omega) (by omega)).1 k)) ?_
      conv => whnf
      rw [if_neg hb] at e2
      exact ⟨(i + 1,.lst (ivs (subs s i)) (subs s i).length (.ch 1),[.chain (subs s i).length 1 3]),⟨h2,.inr (by rw [e2];exact ⟨hne,rfl,rfl⟩)⟩,by show f.length - (i + 1) < f.length - i;omega,Nat.le_refl _,(by refine ⟨rfl,rfl,rfl,rfl,rfl,rfl,2,rfl,?_,?_⟩ <;> repeat' (first | exact trivial | exact rfl | exact ⟨_,rfl,WkV.refl _⟩ | exact ⟨_,rfl,WkV.own _ _ _⟩ | exact Nat.zero_le _ | exact ⟨_,rfl,WkV.int hi1⟩ | exact Nat.le_of_ble_eq_true rfl | exact bdl_no (by assumption) | exact bdl_no (flat_no _) | exact bdl_no (ivs_no _) | exact bdl_no (svs_no _) | exact Nat.max_le.2 ⟨Nat.le_of_ble_eq_true rfl,bdl_no (ivs_no _)⟩ | exact Nat.max_le.2 ⟨Nat.le_of_ble_eq_true rfl,bdl_no (svs_no _)⟩ | apply And.intro))⟩
    ·refine bool_false (ltN_f h2) ?_
     conv => whnf
     refine .inr ⟨[(15,nl (subs s i)),(55,nv i)],[],[.chain (subs s i).length 1 3],2,rfl,Nat.le_refl _,(by refine ⟨rfl,rfl,rfl,rfl,rfl,rfl,2,rfl,?_,?_⟩ <;> repeat' (first | exact trivial | exact rfl | exact ⟨_,rfl,WkV.refl _⟩ | exact ⟨_,rfl,WkV.own _ _ _⟩ | exact Nat.zero_le _ | exact Nat.le_of_ble_eq_true rfl | exact bdl_no (by assumption) | exact bdl_no (flat_no _) | exact bdl_no (ivs_no _) | exact bdl_no (svs_no _) | exact Nat.max_le.2 ⟨Nat.le_of_ble_eq_true rfl,bdl_no (ivs_no _)⟩ | exact Nat.max_le.2 ⟨Nat.le_of_ble_eq_true rfl,bdl_no (svs_no _)⟩ | apply And.intro)),?_⟩
     conv => whnf
     have hi0:i = f.length :=by omega
     subst hi0
     have e5:sv (subs s f.length) = nl (subs s f.length) :=by
      rcases sv_cases (subs s f.length) with ⟨k,_⟩ | k
      ·exact absurd k hne
      ·exact k
     have hk0 :=hk s
     rw [e5] at hk0
     have ls :=ivs_no (subs s f.length)
     refine sym_pure hC (hk0) ?_
     conv => whnf
     have e3:okS f L u (s + 1) = if kp L u 0 (days f (subs s f.length)) then okS f L u s ++ [subs s f.length] else okS f L u s :=rfl
     have hs1:IntKind.i64.wrap (Int.ofNat s + 1) = Int.ofNat (s + 1) :=wrapN (m :=s + 1) (by omega)
     by_cases h3:kp L u 0 (days f (subs s f.length))
     ·rw [if_pos h3] at e3
      refine bool_true (decide_eq_true h3) ?_
      conv => whnf
      rw [e0] at e3
      exact ⟨(s + 1,.lst (svs (okS f L u (s + 1))) (okS f L u (s + 1)).length (.ch 2),[.chain (subs s f.length).length 1 3,.chain (okS f L u (s + 1)).length 1 23]),⟨h,.inr (.inr ⟨by rw [e3];first | exact hok | simp,_,rfl,rfl⟩)⟩,by show 2 ^ f.length - (s + 1) < 2 ^ f.length - s;omega,by simp only [List.length_cons,List.length_nil];omega,by show AtG _ _ _ _ _ _ _ [(13,.lst (svs (okS f L u (s + 1))) (okS f L u (s + 1)).length (.ch 2)),(50,nv (s + 1))] _ [.chain (subs s f.length).length 1 3,.chain (okS f L u (s + 1)).length 1 23] _;rw [e3];exact (by refine ⟨rfl,rfl,rfl,rfl,rfl,rfl,3,rfl,?_,?_⟩ <;> repeat' (first | exact trivial | exact rfl | exact ⟨_,rfl,WkV.refl _⟩ | exact ⟨_,rfl,WkV.own _ _ _⟩ | exact Nat.zero_le _ | exact ⟨_,rfl,WkV.int hs1⟩ | exact ⟨_,rfl,WkV.eq (app_K e5 _)⟩ | exact ⟨_,rfl,WkV.eq (app_K0 e5 _)⟩ | exact app_L _ _ | exact app_L0 _ | exact Nat.le_of_ble_eq_true rfl | exact bdl_no (by assumption) | exact bdl_no (flat_no _) | exact bdl_no (ivs_no _) | exact bdl_no (svs_no _) | exact Nat.max_le.2 ⟨Nat.le_of_ble_eq_true rfl,bdl_no (ivs_no _)⟩ | exact Nat.max_le.2 ⟨Nat.le_of_ble_eq_true rfl,bdl_no (svs_no _)⟩ | apply And.intro))⟩
     ·rw [if_neg h3] at e3
      refine bool_false (decide_eq_false h3) ?_
      conv => whnf
      exact ⟨(s + 1,.nils,[]),⟨h,.inl ⟨e3.trans e0,rfl,rfl⟩⟩,by show 2 ^ f.length - (s + 1) < 2 ^ f.length - s;omega,Nat.le_refl _,(by refine ⟨rfl,rfl,rfl,rfl,rfl,rfl,1,rfl,?_,?_⟩ <;> repeat' (first | exact trivial | exact rfl | exact ⟨_,rfl,WkV.refl _⟩ | exact ⟨_,rfl,WkV.own _ _ _⟩ | exact Nat.zero_le _ | exact ⟨_,rfl,WkV.int hs1⟩ | exact Nat.le_of_ble_eq_true rfl | exact bdl_no (by assumption) | exact bdl_no (flat_no _) | exact bdl_no (ivs_no _) | exact bdl_no (svs_no _) | exact Nat.max_le.2 ⟨Nat.le_of_ble_eq_true rfl,bdl_no (ivs_no _)⟩ | exact Nat.max_le.2 ⟨Nat.le_of_ble_eq_true rfl,bdl_no (svs_no _)⟩ | apply And.intro))⟩
  ·have hs0:s = 2 ^ f.length :=by omega
   refine bool_false (decide_eq_false (show ¬ Int.ofNat s < Int.ofNat (2 ^ f.length) by show ¬ (s:Int) < ((2 ^ f.length:Nat):Int);omega)) ?_
   conv => whnf
   refine .inl ?_
   conv => whnf
   refine sym_pure hC (bestN) ?_
   conv => whnf
   rw [← hs0,setV,if_pos e0,if_pos e0]
   exact ⟨_,rfl,Wk.refl _⟩
 ·obtain rfl:M = 2 :=hM
  have ol :=okS_len f L u s
  conv => whnf
  by_cases h:s < 2 ^ f.length
  ·rw [show decide (Int.ofNat s < Int.ofNat (2 ^ f.length)) = true from decide_eq_true (by show (s:Int) < ((2 ^ f.length:Nat):Int);omega)]
   conv => whnf
   refine sym_loopG hE hS (A :=Nat × AV × List AObj) [3,4,12,13,14,49,50,54] (fun (i,b,_) => [(15,b),(55,nv i)]) (fun _ => []) (fun a => a.2.2) (fun (i,b,uy) => i ≤ f.length ∧ (subs s i = [] ∧ b = .nils ∧ uy = [] ∨ subs s i ≠ [] ∧ b = .lst (ivs (subs s i)) (subs s i).length (.ch 2) ∧ uy = [.chain (subs s i).length 1 3])) (fun (i,_,_) => f.length - i) (0,.nils,[]) (Nat.le_of_ble_eq_true rfl) rfl (by refine ⟨rfl,rfl,rfl,rfl,rfl,rfl,2,rfl,?_,?_⟩ <;> repeat' (first | exact trivial | exact rfl | exact ⟨_,rfl,WkV.refl _⟩ | exact ⟨_,rfl,WkV.own _ _ _⟩ | exact Nat.zero_le _ | exact Nat.le_of_ble_eq_true rfl | exact bdl_no (by assumption) | exact bdl_no (flat_no _) | exact bdl_no (ivs_no _) | exact bdl_no (svs_no _) | exact Nat.max_le.2 ⟨Nat.le_of_ble_eq_true rfl,bdl_no (ivs_no _)⟩ | exact Nat.max_le.2 ⟨Nat.le_of_ble_eq_true rfl,bdl_no (svs_no _)⟩ | apply And.intro)) ⟨Nat.zero_le _,.inl ⟨rfl,rfl,rfl⟩⟩ ?_
   rintro ⟨i,b,uy⟩ ⟨hi,⟨e1,rfl,rfl⟩ | ⟨hne,rfl,rfl⟩⟩ N hN
   ·obtain rfl:N = 2 :=hN
    conv => whnf
    by_cases h2:i < f.length
    ·refine bool_true (ltN_t h2) ?_
     conv => whnf
     have e2:subs s (i + 1) = if s / 2 ^ i % 2 = 1 then subs s i ++ [Int.ofNat i] else subs s i :=rfl
     have hi1:IntKind.i64.wrap (Int.ofNat i + 1) = Int.ofNat (i + 1) :=wrapN (m :=i + 1) (by omega)
     by_cases hb:s / 2 ^ i % 2 = 1
     ·refine bool_true (decide_eq_true ((bit_eq (s :=s) (n :=i) (by omega) (by omega)).2 hb)) ?_
      conv => whnf
      rw [if_pos hb,e1] at e2
      exact ⟨(i + 1,.lst (ivs (subs s (i + 1))) (subs s (i + 1)).length (.ch 2),[.chain (subs s (i + 1)).length 1 3]),⟨h2,.inr ⟨by rw [e2];simp,rfl,rfl⟩⟩,by show f.length - (i + 1) < f.length - i;omega,Nat.zero_le _,by show AtG _ _ _ _ _ _ _ [(15,.lst (ivs (subs s (i + 1))) (subs s (i + 1)).length (.ch 2)),(55,nv (i + 1))] _ [.chain (subs s (i + 1)).length 1 3] _;rw [e2];exact (by refine ⟨rfl,rfl,rfl,rfl,rfl,rfl,3,rfl,?_,?_⟩ <;> repeat' (first | exact trivial | exact rfl | exact ⟨_,rfl,WkV.refl _⟩ | exact ⟨_,rfl,WkV.own _ _ _⟩ | exact Nat.zero_le _ | exact ⟨_,rfl,WkV.int hi1⟩ | exact Nat.le_of_ble_eq_true rfl | exact bdl_no (by assumption) | exact bdl_no (flat_no _) | exact bdl_no (ivs_no _) | exact bdl_no (svs_no _) | exact Nat.max_le.2 ⟨Nat.le_of_ble_eq_true rfl,bdl_no (ivs_no _)⟩ | exact Nat.max_le.2 ⟨Nat.le_of_ble_eq_true rfl,bdl_no (svs_no _)⟩ | apply And.intro))⟩
     ·refine bool_false (decide_eq_false fun k => hb ((bit_eq (s :=s) (n :=i) (by omega) (by omega)).1 k)) ?_
      conv => whnf
      rw [if_neg hb,e1] at e2
      exact ⟨(i + 1,.nils,[]),⟨h2,.inl ⟨e2,rfl,rfl⟩⟩,by show f.length - (i + 1) < f.length - i;omega,Nat.le_refl _,(by refine ⟨rfl,rfl,rfl,rfl,rfl,rfl,2,rfl,?_,?_⟩ <;> repeat' (first | exact trivial | exact rfl | exact ⟨_,rfl,WkV.refl _⟩ | exact ⟨_,rfl,WkV.own _ _ _⟩ | exact Nat.zero_le _ | exact ⟨_,rfl,WkV.int hi1⟩ | exact Nat.le_of_ble_eq_true rfl | exact bdl_no (by assumption) | exact bdl_no (flat_no _) | exact bdl_no (ivs_no _) | exact bdl_no (svs_no _) | exact Nat.max_le.2 ⟨Nat.le_of_ble_eq_true rfl,bdl_no (ivs_no _)⟩ | exact Nat.max_le.2 ⟨Nat.le_of_ble_eq_true rfl,bdl_no (svs_no _)⟩ | apply And.intro))⟩
    ·refine bool_false (ltN_f h2) ?_
     conv => whnf
     refine .inr ⟨[(15,.nils),(55,nv i)],[],[],2,rfl,Nat.le_refl _,(by refine ⟨rfl,rfl,rfl,rfl,rfl,rfl,2,rfl,?_,?_⟩ <;> repeat' (first | exact trivial | exact rfl | exact ⟨_,rfl,WkV.refl _⟩ | exact ⟨_,rfl,WkV.own _ _ _⟩ | exact Nat.zero_le _ | exact Nat.le_of_ble_eq_true rfl | exact bdl_no (by assumption) | exact bdl_no (flat_no _) | exact bdl_no (ivs_no _) | exact bdl_no (svs_no _) | exact Nat.max_le.2 ⟨Nat.le_of_ble_eq_true rfl,bdl_no (ivs_no _)⟩ | exact Nat.max_le.2 ⟨Nat.le_of_ble_eq_true rfl,bdl_no (svs_no _)⟩ | apply And.intro)),?_⟩
     conv => whnf
     have hi0:i = f.length :=by omega
     subst hi0
     have e5:sv (subs s f.length) = .nils :=by rw [e1];rfl
     have hk0 :=hk s
     rw [e5] at hk0
     refine sym_pure hC (hk0) ?_
     conv => whnf
     have e3:okS f L u (s + 1) = if kp L u 0 (days f (subs s f.length)) then okS f L u s ++ [subs s f.length] else okS f L u s :=rfl
     have hs1:IntKind.i64.wrap (Int.ofNat s + 1) = Int.ofNat (s + 1) :=wrapN (m :=s + 1) (by omega)
     by_cases h3:kp L u 0 (days f (subs s f.length))
     ·rw [if_pos h3] at e3
      refine bool_true (decide_eq_true h3) ?_
      conv => whnf
      refine bool_true (decide_eq_true (show ((okS f L u s).length + (0 + 1)) * 24 ≤ 140737488355328 by omega)) ?_
      conv => whnf
      refine bool_true (decide_eq_true (show (okS f L u s).length + (0 + 1) ≤ 9223372036854775807 by omega)) ?_
      conv => whnf
      refine bool_true (lenIs_svs (okS f L u s)) ?_
      conv => whnf
      refine bool_true (decide_eq_true rfl) ?_
      conv => whnf
      exact ⟨(s + 1,.lst (svs (okS f L u (s + 1))) (okS f L u (s + 1)).length (.ch 1),[.chain (okS f L u (s + 1)).length 1 23]),⟨h,.inr (.inl ⟨by rw [e3];first | exact hok | simp,rfl,rfl⟩)⟩,by show 2 ^ f.length - (s + 1) < 2 ^ f.length - s;omega,by simp only [List.length_cons,List.length_nil];omega,by show AtG _ _ _ _ _ _ _ [(13,.lst (svs (okS f L u (s + 1))) (okS f L u (s + 1)).length (.ch 1)),(50,nv (s + 1))] _ [.chain (okS f L u (s + 1)).length 1 23] _;rw [e3];exact (by refine ⟨rfl,rfl,rfl,rfl,rfl,rfl,2,rfl,?_,?_⟩ <;> repeat' (first | exact trivial | exact rfl | exact ⟨_,rfl,WkV.refl _⟩ | exact ⟨_,rfl,WkV.own _ _ _⟩ | exact Nat.zero_le _ | exact ⟨_,rfl,WkV.int hs1⟩ | exact ⟨_,rfl,WkV.eq (app_K e5 _)⟩ | exact ⟨_,rfl,WkV.eq (app_K0 e5 _)⟩ | exact app_L _ _ | exact app_L0 _ | exact Nat.le_of_ble_eq_true rfl | exact bdl_no (by assumption) | exact bdl_no (flat_no _) | exact bdl_no (ivs_no _) | exact bdl_no (svs_no _) | exact Nat.max_le.2 ⟨Nat.le_of_ble_eq_true rfl,bdl_no (ivs_no _)⟩ | exact Nat.max_le.2 ⟨Nat.le_of_ble_eq_true rfl,bdl_no (svs_no _)⟩ | apply And.intro))⟩
     ·rw [if_neg h3] at e3
      refine bool_false (decide_eq_false h3) ?_
      conv => whnf
      exact ⟨(s + 1,.lst (svs (okS f L u (s + 1))) (okS f L u (s + 1)).length (.ch 1),[.chain (okS f L u (s + 1)).length 1 23]),⟨h,.inr (.inl ⟨by rw [e3];first | exact hok | simp,rfl,rfl⟩)⟩,by show 2 ^ f.length - (s + 1) < 2 ^ f.length - s;omega,by simp only [List.length_cons,List.length_nil];omega,by show AtG _ _ _ _ _ _ _ [(13,.lst (svs (okS f L u (s + 1))) (okS f L u (s + 1)).length (.ch 1)),(50,nv (s + 1))] _ [.chain (okS f L u (s + 1)).length 1 23] _;rw [e3];exact (by refine ⟨rfl,rfl,rfl,rfl,rfl,rfl,2,rfl,?_,?_⟩ <;> repeat' (first | exact trivial | exact rfl | exact ⟨_,rfl,WkV.refl _⟩ | exact ⟨_,rfl,WkV.own _ _ _⟩ | exact Nat.zero_le _ | exact ⟨_,rfl,WkV.int hs1⟩ | exact ⟨_,rfl,WkV.eq (app_K e5 _)⟩ | exact ⟨_,rfl,WkV.eq (app_K0 e5 _)⟩ | exact app_L _ _ | exact app_L0 _ | exact Nat.le_of_ble_eq_true rfl | exact bdl_no (by assumption) | exact bdl_no (flat_no _) | exact bdl_no (ivs_no _) | exact bdl_no (svs_no _) | exact Nat.max_le.2 ⟨Nat.le_of_ble_eq_true rfl,bdl_no (ivs_no _)⟩ | exact Nat.max_le.2 ⟨Nat.le_of_ble_eq_true rfl,bdl_no (svs_no _)⟩ | apply And.intro))⟩
   ·obtain rfl:N = 3 :=hN
    have sn :=subs_len s i
    conv => whnf
    by_cases h2:i < f.length
    ·refine bool_true (ltN_t h2) ?_
     conv => whnf
     have e2:subs s (i + 1) = if s / 2 ^ i % 2 = 1 then subs s i ++ [Int.ofNat i] else subs s i :=rfl
     have hi1:IntKind.i64.wrap (Int.ofNat i + 1) = Int.ofNat (i + 1) :=wrapN (m :=i + 1) (by omega)
     by_cases hb:s / 2 ^ i % 2 = 1
     ·refine bool_true (decide_eq_true ((bit_eq (s :=s) (n :=i) (by omega) (by omega)).2 hb)) ?_
      conv => whnf
      refine bool_true (decide_eq_true (show ((subs s i).length + (0 + 1)) * 8 ≤ 140737488355328 by omega)) ?_
      conv => whnf
      refine bool_true (decide_eq_true (show (subs s i).length + (0 + 1) ≤ 9223372036854775807 by omega)) ?_
      conv => whnf
      refine bool_true (lenIs_ivs (subs s i)) ?_
      conv => whnf
      refine bool_true (decide_eq_true rfl) ?_
      conv => whnf
      rw [if_pos hb] at e2
      exact ⟨(i + 1,.lst (ivs (subs s (i + 1))) (subs s (i + 1)).length (.ch 2),[.chain (subs s (i + 1)).length 1 3]),⟨h2,.inr ⟨by rw [e2];simp,rfl,rfl⟩⟩,by show f.length - (i + 1) < f.length - i;omega,Nat.le_refl _,by show AtG _ _ _ _ _ _ _ [(15,.lst (ivs (subs s (i + 1))) (subs s (i + 1)).length (.ch 2)),(55,nv (i + 1))] _ [.chain (subs s (i + 1)).length 1 3] _;rw [e2];exact (by refine ⟨rfl,rfl,rfl,rfl,rfl,rfl,3,rfl,?_,?_⟩ <;> repeat' (first | exact trivial | exact rfl | exact ⟨_,rfl,WkV.refl _⟩ | exact ⟨_,rfl,WkV.own _ _ _⟩ | exact Nat.zero_le _ | exact ⟨_,rfl,WkV.int hi1⟩ | exact ⟨_,rfl,WkV.eq (app_I _ _ _)⟩ | exact app_J _ _ | exact Nat.le_of_ble_eq_true rfl | exact bdl_no (by assumption) | exact bdl_no (flat_no _) | exact bdl_no (ivs_no _) | exact bdl_no (svs_no _) | exact Nat.max_le.2 ⟨Nat.le_of_ble_eq_true rfl,bdl_no (ivs_no _)⟩ | exact Nat.max_le.2 ⟨Nat.le_of_ble_eq_true rfl,bdl_no (svs_no _)⟩ | apply And.intro))⟩
     ·refine bool_false (decide_eq_false fun k => hb ((bit_eq (s :=s) (n :=i) (by omega) (by omega)).1 k)) ?_
      conv => whnf
      rw [if_neg hb] at e2
      exact ⟨(i + 1,.lst (ivs (subs s i)) (subs s i).length (.ch 2),[.chain (subs s i).length 1 3]),⟨h2,.inr (by rw [e2];exact ⟨hne,rfl,rfl⟩)⟩,by show f.length - (i + 1) < f.length - i;omega,Nat.le_refl _,(by refine ⟨rfl,rfl,rfl,rfl,rfl,rfl,3,rfl,?_,?_⟩ <;> repeat' (first | exact trivial | exact rfl | exact ⟨_,rfl,WkV.refl _⟩ | exact ⟨_,rfl,WkV.own _ _ _⟩ | exact Nat.zero_le _ | exact ⟨_,rfl,WkV.int hi1⟩ | exact Nat.le_of_ble_eq_true rfl | exact bdl_no (by assumption) | exact bdl_no (flat_no _) | exact bdl_no (ivs_no _) | exact bdl_no (svs_no _) | exact Nat.max_le.2 ⟨Nat.le_of_ble_eq_true rfl,bdl_no (ivs_no _)⟩ | exact Nat.max_le.2 ⟨Nat.le_of_ble_eq_true rfl,bdl_no (svs_no _)⟩ | apply And.intro))⟩
    ·refine bool_false (ltN_f h2) ?_
     conv => whnf
     refine .inr ⟨[(15,nl (subs s i)),(55,nv i)],[],[.chain (subs s i).length 1 3],3,rfl,Nat.le_refl _,(by refine ⟨rfl,rfl,rfl,rfl,rfl,rfl,3,rfl,?_,?_⟩ <;> repeat' (first | exact trivial | exact rfl | exact ⟨_,rfl,WkV.refl _⟩ | exact ⟨_,rfl,WkV.own _ _ _⟩ | exact Nat.zero_le _ | exact Nat.le_of_ble_eq_true rfl | exact bdl_no (by assumption) | exact bdl_no (flat_no _) | exact bdl_no (ivs_no _) | exact bdl_no (svs_no _) | exact Nat.max_le.2 ⟨Nat.le_of_ble_eq_true rfl,bdl_no (ivs_no _)⟩ | exact Nat.max_le.2 ⟨Nat.le_of_ble_eq_true rfl,bdl_no (svs_no _)⟩ | apply And.intro)),?_⟩
     conv => whnf
     have hi0:i = f.length :=by omega
     subst hi0
     have e5:sv (subs s f.length) = nl (subs s f.length) :=by
      rcases sv_cases (subs s f.length) with ⟨k,_⟩ | k
      ·exact absurd k hne
      ·exact k
     have hk0 :=hk s
     rw [e5] at hk0
     have ls :=ivs_no (subs s f.length)
     refine sym_pure hC (hk0) ?_
     conv => whnf
     have e3:okS f L u (s + 1) = if kp L u 0 (days f (subs s f.length)) then okS f L u s ++ [subs s f.length] else okS f L u s :=rfl
     have hs1:IntKind.i64.wrap (Int.ofNat s + 1) = Int.ofNat (s + 1) :=wrapN (m :=s + 1) (by omega)
     by_cases h3:kp L u 0 (days f (subs s f.length))
     ·rw [if_pos h3] at e3
      refine bool_true (decide_eq_true h3) ?_
      conv => whnf
      refine bool_true (decide_eq_true (show ((okS f L u s).length + (0 + 1)) * 24 ≤ 140737488355328 by omega)) ?_
      conv => whnf
      refine bool_true (decide_eq_true (show (okS f L u s).length + (0 + 1) ≤ 9223372036854775807 by omega)) ?_
      conv => whnf
      refine bool_true (lenIs_svs (okS f L u s)) ?_
      conv => whnf
      refine bool_true (decide_eq_true rfl) ?_
      conv => whnf
      exact ⟨(s + 1,.lst (svs (okS f L u (s + 1))) (okS f L u (s + 1)).length (.ch 1),[.chain (okS f L u (s + 1)).length 1 23]),⟨h,.inr (.inl ⟨by rw [e3];first | exact hok | simp,rfl,rfl⟩)⟩,by show 2 ^ f.length - (s + 1) < 2 ^ f.length - s;omega,by simp only [List.length_cons,List.length_nil];omega,by show AtG _ _ _ _ _ _ _ [(13,.lst (svs (okS f L u (s + 1))) (okS f L u (s + 1)).length (.ch 1)),(50,nv (s + 1))] _ [.chain (okS f L u (s + 1)).length 1 23] _;rw [e3];exact (by refine ⟨rfl,rfl,rfl,rfl,rfl,rfl,2,rfl,?_,?_⟩ <;> repeat' (first | exact trivial | exact rfl | exact ⟨_,rfl,WkV.refl _⟩ | exact ⟨_,rfl,WkV.own _ _ _⟩ | exact Nat.zero_le _ | exact ⟨_,rfl,WkV.int hs1⟩ | exact ⟨_,rfl,WkV.eq (app_K e5 _)⟩ | exact ⟨_,rfl,WkV.eq (app_K0 e5 _)⟩ | exact app_L _ _ | exact app_L0 _ | exact Nat.le_of_ble_eq_true rfl | exact bdl_no (by assumption) | exact bdl_no (flat_no _) | exact bdl_no (ivs_no _) | exact bdl_no (svs_no _) | exact Nat.max_le.2 ⟨Nat.le_of_ble_eq_true rfl,bdl_no (ivs_no _)⟩ | exact Nat.max_le.2 ⟨Nat.le_of_ble_eq_true rfl,bdl_no (svs_no _)⟩ | apply And.intro))⟩
     ·rw [if_neg h3] at e3
      refine bool_false (decide_eq_false h3) ?_
      conv => whnf
      exact ⟨(s + 1,.lst (svs (okS f L u (s + 1))) (okS f L u (s + 1)).length (.ch 1),[.chain (okS f L u (s + 1)).length 1 23]),⟨h,.inr (.inl ⟨by rw [e3];first | exact hok | simp,rfl,rfl⟩)⟩,by show 2 ^ f.length - (s + 1) < 2 ^ f.length - s;omega,by simp only [List.length_cons,List.length_nil];omega,by show AtG _ _ _ _ _ _ _ [(13,.lst (svs (okS f L u (s + 1))) (okS f L u (s + 1)).length (.ch 1)),(50,nv (s + 1))] _ [.chain (okS f L u (s + 1)).length 1 23] _;rw [e3];exact (by refine ⟨rfl,rfl,rfl,rfl,rfl,rfl,2,rfl,?_,?_⟩ <;> repeat' (first | exact trivial | exact rfl | exact ⟨_,rfl,WkV.refl _⟩ | exact ⟨_,rfl,WkV.own _ _ _⟩ | exact Nat.zero_le _ | exact ⟨_,rfl,WkV.int hs1⟩ | exact ⟨_,rfl,WkV.eq (app_K e5 _)⟩ | exact ⟨_,rfl,WkV.eq (app_K0 e5 _)⟩ | exact app_L _ _ | exact app_L0 _ | exact Nat.le_of_ble_eq_true rfl | exact bdl_no (by assumption) | exact bdl_no (flat_no _) | exact bdl_no (ivs_no _) | exact bdl_no (svs_no _) | exact Nat.max_le.2 ⟨Nat.le_of_ble_eq_true rfl,bdl_no (ivs_no _)⟩ | exact Nat.max_le.2 ⟨Nat.le_of_ble_eq_true rfl,bdl_no (svs_no _)⟩ | apply And.intro))⟩
  ·have hs0:s = 2 ^ f.length :=by omega
   have hb :=bestW (okS f L u s) 1 (by omega) fun x k => by have :=okS_mem f L u k;omega
   have lq :=ivs_no (bstS (okS f L u s))
   refine bool_false (decide_eq_false (show ¬ Int.ofNat s < Int.ofNat (2 ^ f.length) by show ¬ (s:Int) < ((2 ^ f.length:Nat):Int);omega)) ?_
   conv => whnf
   have hE0:okS f L u s ≠ [] :=hok
   have hb1:decide (((okS f L u s).length:Int) > 0) = true :=decide_eq_true (by have :=List.length_pos_iff.2 hE0;omega)
   rw [hb1] at hb
   rcases sv_cases (bstS (okS f L u s)) with ⟨_,e6⟩ | e6
   ·rw [e6] at hb
    refine .inl ?_
    conv => whnf
    refine sym_pure hC (hb) ?_
    conv => whnf
    rw [← hs0,setV,if_neg hE0,if_neg hE0,e6]
    exact ⟨_,rfl,Wk.refl _⟩
   ·rw [e6] at hb
    refine .inl ?_
    conv => whnf
    refine sym_pure hC (hb) ?_
    conv => whnf
    rw [← hs0,setV,if_neg hE0,if_neg hE0,e6]
    exact ⟨_,rfl,Wk.refl _⟩
 ·obtain rfl:M = 3 :=hM
  have ol :=okS_len f L u s
  conv => whnf
  by_cases h:s < 2 ^ f.length
  ·rw [show decide (Int.ofNat s < Int.ofNat (2 ^ f.length)) = true from decide_eq_true (by show (s:Int) < ((2 ^ f.length:Nat):Int);omega)]
   conv => whnf
   refine sym_loopG hE hS (A :=Nat × AV × List AObj) [3,4,12,13,14,49,50,54] (fun (i,b,_) => [(15,b),(55,nv i)]) (fun _ => []) (fun a => a.2.2) (fun (i,b,uy) => i ≤ f.length ∧ (subs s i = [] ∧ b = .nils ∧ uy = [] ∨ subs s i ≠ [] ∧ b = .lst (ivs (subs s i)) (subs s i).length (.ch 3) ∧ uy = [.chain (subs s i).length 1 3])) (fun (i,_,_) => f.length - i) (0,.nils,[]) (Nat.le_of_ble_eq_true rfl) rfl (by refine ⟨rfl,rfl,rfl,rfl,rfl,rfl,3,rfl,?_,?_⟩ <;> repeat' (first | exact trivial | exact rfl | exact ⟨_,rfl,WkV.refl _⟩ | exact ⟨_,rfl,WkV.own _ _ _⟩ | exact Nat.zero_le _ | exact Nat.le_of_ble_eq_true rfl | exact bdl_no (by assumption) | exact bdl_no (flat_no _) | exact bdl_no (ivs_no _) | exact bdl_no (svs_no _) | exact Nat.max_le.2 ⟨Nat.le_of_ble_eq_true rfl,bdl_no (ivs_no _)⟩ | exact Nat.max_le.2 ⟨Nat.le_of_ble_eq_true rfl,bdl_no (svs_no _)⟩ | apply And.intro)) ⟨Nat.zero_le _,.inl ⟨rfl,rfl,rfl⟩⟩ ?_
   rintro ⟨i,b,uy⟩ ⟨hi,⟨e1,rfl,rfl⟩ | ⟨hne,rfl,rfl⟩⟩ N hN
   ·obtain rfl:N = 3 :=hN
    conv => whnf
    by_cases h2:i < f.length
    ·refine bool_true (ltN_t h2) ?_
     conv => whnf
     have e2:subs s (i + 1) = if s / 2 ^ i % 2 = 1 then subs s i ++ [Int.ofNat i] else subs s i :=rfl
     have hi1:IntKind.i64.wrap (Int.ofNat i + 1) = Int.ofNat (i + 1) :=wrapN (m :=i + 1) (by omega)
     by_cases hb:s / 2 ^ i % 2 = 1
     ·refine bool_true (decide_eq_true ((bit_eq (s :=s) (n :=i) (by omega) (by omega)).2 hb)) ?_
      conv => whnf
      rw [if_pos hb,e1] at e2
      exact ⟨(i + 1,.lst (ivs (subs s (i + 1))) (subs s (i + 1)).length (.ch 3),[.chain (subs s (i + 1)).length 1 3]),⟨h2,.inr ⟨by rw [e2];simp,rfl,rfl⟩⟩,by show f.length - (i + 1) < f.length - i;omega,Nat.zero_le _,by show AtG _ _ _ _ _ _ _ [(15,.lst (ivs (subs s (i + 1))) (subs s (i + 1)).length (.ch 3)),(55,nv (i + 1))] _ [.chain (subs s (i + 1)).length 1 3] _;rw [e2];exact (by refine ⟨rfl,rfl,rfl,rfl,rfl,rfl,4,rfl,?_,?_⟩ <;> repeat' (first | exact trivial | exact rfl | exact ⟨_,rfl,WkV.refl _⟩ | exact ⟨_,rfl,WkV.own _ _ _⟩ | exact Nat.zero_le _ | exact ⟨_,rfl,WkV.int hi1⟩ | exact Nat.le_of_ble_eq_true rfl | exact bdl_no (by assumption) | exact bdl_no (flat_no _) | exact bdl_no (ivs_no _) | exact bdl_no (svs_no _) | exact Nat.max_le.2 ⟨Nat.le_of_ble_eq_true rfl,bdl_no (ivs_no _)⟩ | exact Nat.max_le.2 ⟨Nat.le_of_ble_eq_true rfl,bdl_no (svs_no _)⟩ | apply And.intro))⟩
     ·refine bool_false (decide_eq_false fun k => hb ((bit_eq (s :=s) (n :=i) (by omega) (by omega)).1 k)) ?_
      conv => whnf
      rw [if_neg hb,e1] at e2
      exact ⟨(i + 1,.nils,[]),⟨h2,.inl ⟨e2,rfl,rfl⟩⟩,by show f.length - (i + 1) < f.length - i;omega,Nat.le_refl _,(by refine ⟨rfl,rfl,rfl,rfl,rfl,rfl,3,rfl,?_,?_⟩ <;> repeat' (first | exact trivial | exact rfl | exact ⟨_,rfl,WkV.refl _⟩ | exact ⟨_,rfl,WkV.own _ _ _⟩ | exact Nat.zero_le _ | exact ⟨_,rfl,WkV.int hi1⟩ | exact Nat.le_of_ble_eq_true rfl | exact bdl_no (by assumption) | exact bdl_no (flat_no _) | exact bdl_no (ivs_no _) | exact bdl_no (svs_no _) | exact Nat.max_le.2 ⟨Nat.le_of_ble_eq_true rfl,bdl_no (ivs_no _)⟩ | exact Nat.max_le.2 ⟨Nat.le_of_ble_eq_true rfl,bdl_no (svs_no _)⟩ | apply And.intro))⟩
    ·refine bool_false (ltN_f h2) ?_
     conv => whnf
     refine .inr ⟨[(15,.nils),(55,nv i)],[],[],3,rfl,Nat.le_refl _,(by refine ⟨rfl,rfl,rfl,rfl,rfl,rfl,3,rfl,?_,?_⟩ <;> repeat' (first | exact trivial | exact rfl | exact ⟨_,rfl,WkV.refl _⟩ | exact ⟨_,rfl,WkV.own _ _ _⟩ | exact Nat.zero_le _ | exact Nat.le_of_ble_eq_true rfl | exact bdl_no (by assumption) | exact bdl_no (flat_no _) | exact bdl_no (ivs_no _) | exact bdl_no (svs_no _) | exact Nat.max_le.2 ⟨Nat.le_of_ble_eq_true rfl,bdl_no (ivs_no _)⟩ | exact Nat.max_le.2 ⟨Nat.le_of_ble_eq_true rfl,bdl_no (svs_no _)⟩ | apply And.intro)),?_⟩
     conv => whnf
     have hi0:i = f.length :=by omega
     subst hi0
     have e5:sv (subs s f.length) = .nils :=by rw [e1];rfl
     have hk0 :=hk s
     rw [e5] at hk0
     refine sym_pure hC (hk0) ?_
     conv => whnf
     have e3:okS f L u (s + 1) = if kp L u 0 (days f (subs s f.length)) then okS f L u s ++ [subs s f.length] else okS f L u s :=rfl
     have hs1:IntKind.i64.wrap (Int.ofNat s + 1) = Int.ofNat (s + 1) :=wrapN (m :=s + 1) (by omega)
     by_cases h3:kp L u 0 (days f (subs s f.length))
     ·rw [if_pos h3] at e3
      refine bool_true (decide_eq_true h3) ?_
      conv => whnf
      refine bool_true (decide_eq_true (show ((okS f L u s).length + (0 + 1)) * 24 ≤ 140737488355328 by omega)) ?_
      conv => whnf
      refine bool_true (decide_eq_true (show (okS f L u s).length + (0 + 1) ≤ 9223372036854775807 by omega)) ?_
      conv => whnf
      refine bool_true (lenIs_svs (okS f L u s)) ?_
      conv => whnf
      refine bool_true (decide_eq_true rfl) ?_
      conv => whnf
      exact ⟨(s + 1,.lst (svs (okS f L u (s + 1))) (okS f L u (s + 1)).length (.ch 2),[.chain j 1 3,.chain (okS f L u (s + 1)).length 1 23]),⟨h,.inr (.inr ⟨by rw [e3];first | exact hok | simp,_,rfl,rfl⟩)⟩,by show 2 ^ f.length - (s + 1) < 2 ^ f.length - s;omega,by simp only [List.length_cons,List.length_nil];omega,by show AtG _ _ _ _ _ _ _ [(13,.lst (svs (okS f L u (s + 1))) (okS f L u (s + 1)).length (.ch 2)),(50,nv (s + 1))] _ [.chain j 1 3,.chain (okS f L u (s + 1)).length 1 23] _;rw [e3];exact (by refine ⟨rfl,rfl,rfl,rfl,rfl,rfl,3,rfl,?_,?_⟩ <;> repeat' (first | exact trivial | exact rfl | exact ⟨_,rfl,WkV.refl _⟩ | exact ⟨_,rfl,WkV.own _ _ _⟩ | exact Nat.zero_le _ | exact ⟨_,rfl,WkV.int hs1⟩ | exact ⟨_,rfl,WkV.eq (app_K e5 _)⟩ | exact ⟨_,rfl,WkV.eq (app_K0 e5 _)⟩ | exact app_L _ _ | exact app_L0 _ | exact Nat.le_of_ble_eq_true rfl | exact bdl_no (by assumption) | exact bdl_no (flat_no _) | exact bdl_no (ivs_no _) | exact bdl_no (svs_no _) | exact Nat.max_le.2 ⟨Nat.le_of_ble_eq_true rfl,bdl_no (ivs_no _)⟩ | exact Nat.max_le.2 ⟨Nat.le_of_ble_eq_true rfl,bdl_no (svs_no _)⟩ | apply And.intro))⟩
     ·rw [if_neg h3] at e3
      refine bool_false (decide_eq_false h3) ?_
      conv => whnf
      exact ⟨(s + 1,.lst (svs (okS f L u (s + 1))) (okS f L u (s + 1)).length (.ch 2),[.chain j 1 3,.chain (okS f L u (s + 1)).length 1 23]),⟨h,.inr (.inr ⟨by rw [e3];first | exact hok | simp,_,rfl,rfl⟩)⟩,by show 2 ^ f.length - (s + 1) < 2 ^ f.length - s;omega,by simp only [List.length_cons,List.length_nil];omega,by show AtG _ _ _ _ _ _ _ [(13,.lst (svs (okS f L u (s + 1))) (okS f L u (s + 1)).length (.ch 2)),(50,nv (s + 1))] _ [.chain j 1 3,.chain (okS f L u (s + 1)).length 1 23] _;rw [e3];exact (by refine ⟨rfl,rfl,rfl,rfl,rfl,rfl,3,rfl,?_,?_⟩ <;> repeat' (first | exact trivial | exact rfl | exact ⟨_,rfl,WkV.refl _⟩ | exact ⟨_,rfl,WkV.own _ _ _⟩ | exact Nat.zero_le _ | exact ⟨_,rfl,WkV.int hs1⟩ | exact ⟨_,rfl,WkV.eq (app_K e5 _)⟩ | exact ⟨_,rfl,WkV.eq (app_K0 e5 _)⟩ | exact app_L _ _ | exact app_L0 _ | exact Nat.le_of_ble_eq_true rfl | exact bdl_no (by assumption) | exact bdl_no (flat_no _) | exact bdl_no (ivs_no _) | exact bdl_no (svs_no _) | exact Nat.max_le.2 ⟨Nat.le_of_ble_eq_true rfl,bdl_no (ivs_no _)⟩ | exact Nat.max_le.2 ⟨Nat.le_of_ble_eq_true rfl,bdl_no (svs_no _)⟩ | apply And.intro))⟩
   ·obtain rfl:N = 4 :=hN
    have sn :=subs_len s i
    conv => whnf
    by_cases h2:i < f.length
    ·refine bool_true (ltN_t h2) ?_
     conv => whnf
     have e2:subs s (i + 1) = if s / 2 ^ i % 2 = 1 then subs s i ++ [Int.ofNat i] else subs s i :=rfl
     have hi1:IntKind.i64.wrap (Int.ofNat i + 1) = Int.ofNat (i + 1) :=wrapN (m :=i + 1) (by omega)
     by_cases hb:s / 2 ^ i % 2 = 1
     ·refine bool_true (decide_eq_true ((bit_eq (s :=s) (n :=i) (by omega) (by omega)).2 hb)) ?_
      conv => whnf
      refine bool_true (decide_eq_true (show ((subs s i).length + (0 + 1)) * 8 ≤ 140737488355328 by omega)) ?_
      conv => whnf
      refine bool_true (decide_eq_true (show (subs s i).length + (0 + 1) ≤ 9223372036854775807 by omega)) ?_
      conv => whnf
      refine bool_true (lenIs_ivs (subs s i)) ?_
      conv => whnf
      refine bool_true (decide_eq_true rfl) ?_
      conv => whnf
      rw [if_pos hb] at e2
      exact ⟨(i + 1,.lst (ivs (subs s (i + 1))) (subs s (i + 1)).length (.ch 3),[.chain (subs s (i + 1)).length 1 3]),⟨h2,.inr ⟨by rw [e2];simp,rfl,rfl⟩⟩,by show f.length - (i + 1) < f.length - i;omega,Nat.le_refl _,by show AtG _ _ _ _ _ _ _ [(15,.lst (ivs (subs s (i + 1))) (subs s (i + 1)).length (.ch 3)),(55,nv (i + 1))] _ [.chain (subs s (i + 1)).length 1 3] _;rw [e2];exact (by refine ⟨rfl,rfl,rfl,rfl,rfl,rfl,4,rfl,?_,?_⟩ <;> repeat' (first | exact trivial | exact rfl | exact ⟨_,rfl,WkV.refl _⟩ | exact ⟨_,rfl,WkV.own _ _ _⟩ | exact Nat.zero_le _ | exact ⟨_,rfl,WkV.int hi1⟩ | exact ⟨_,rfl,WkV.eq (app_I _ _ _)⟩ | exact app_J _ _ | exact Nat.le_of_ble_eq_true rfl | exact bdl_no (by assumption) | exact bdl_no (flat_no _) | exact bdl_no (ivs_no _) | exact bdl_no (svs_no _) | exact Nat.max_le.2 ⟨Nat.le_of_ble_eq_true rfl,bdl_no (ivs_no _)⟩ | exact Nat.max_le.2 ⟨Nat.le_of_ble_eq_true rfl,bdl_no (svs_no _)⟩ | apply And.intro))⟩
     ·refine bool_false (decide_eq_false fun k => hb ((bit_eq (s :=s) (n :=i) (by omega) (by omega)).1 k)) ?_
      conv => whnf
      rw [if_neg hb] at e2
      exact ⟨(i + 1,.lst (ivs (subs s i)) (subs s i).length (.ch 3),[.chain (subs s i).length 1 3]),⟨h2,.inr (by rw [e2];exact ⟨hne,rfl,rfl⟩)⟩,by show f.length - (i + 1) < f.length - i;omega,Nat.le_refl _,(by refine ⟨rfl,rfl,rfl,rfl,rfl,rfl,4,rfl,?_,?_⟩ <;> repeat' (first | exact trivial | exact rfl | exact ⟨_,rfl,WkV.refl _⟩ | exact ⟨_,rfl,WkV.own _ _ _⟩ | exact Nat.zero_le _ | exact ⟨_,rfl,WkV.int hi1⟩ | exact Nat.le_of_ble_eq_true rfl | exact bdl_no (by assumption) | exact bdl_no (flat_no _) | exact bdl_no (ivs_no _) | exact bdl_no (svs_no _) | exact Nat.max_le.2 ⟨Nat.le_of_ble_eq_true rfl,bdl_no (ivs_no _)⟩ | exact Nat.max_le.2 ⟨Nat.le_of_ble_eq_true rfl,bdl_no (svs_no _)⟩ | apply And.intro))⟩
    ·refine bool_false (ltN_f h2) ?_
     conv => whnf
     refine .inr ⟨[(15,nl (subs s i)),(55,nv i)],[],[.chain (subs s i).length 1 3],4,rfl,Nat.le_refl _,(by refine ⟨rfl,rfl,rfl,rfl,rfl,rfl,4,rfl,?_,?_⟩ <;> repeat' (first | exact trivial | exact rfl | exact ⟨_,rfl,WkV.refl _⟩ | exact ⟨_,rfl,WkV.own _ _ _⟩ | exact Nat.zero_le _ | exact Nat.le_of_ble_eq_true rfl | exact bdl_no (by assumption) | exact bdl_no (flat_no _) | exact bdl_no (ivs_no _) | exact bdl_no (svs_no _) | exact Nat.max_le.2 ⟨Nat.le_of_ble_eq_true rfl,bdl_no (ivs_no _)⟩ | exact Nat.max_le.2 ⟨Nat.le_of_ble_eq_true rfl,bdl_no (svs_no _)⟩ | apply And.intro)),?_⟩
     conv => whnf
     have hi0:i = f.length :=by omega
     subst hi0
     have e5:sv (subs s f.length) = nl (subs s f.length) :=by
      rcases sv_cases (subs s f.length) with ⟨k,_⟩ | k
      ·exact absurd k hne
      ·exact k
     have hk0 :=hk s
     rw [e5] at hk0
     have ls :=ivs_no (subs s f.length)
     refine sym_pure hC (hk0) ?_
     conv => whnf
     have e3:okS f L u (s + 1) = if kp L u 0 (days f (subs s f.length)) then okS f L u s ++ [subs s f.length] else okS f L u s :=rfl
     have hs1:IntKind.i64.wrap (Int.ofNat s + 1) = Int.ofNat (s + 1) :=wrapN (m :=s + 1) (by omega)
     by_cases h3:kp L u 0 (days f (subs s f.length))
     ·rw [if_pos h3] at e3
      refine bool_true (decide_eq_true h3) ?_
      conv => whnf
      refine bool_true (decide_eq_true (show ((okS f L u s).length + (0 + 1)) * 24 ≤ 140737488355328 by omega)) ?_
      conv => whnf
      refine bool_true (decide_eq_true (show (okS f L u s).length + (0 + 1) ≤ 9223372036854775807 by omega)) ?_
      conv => whnf
      refine bool_true (lenIs_svs (okS f L u s)) ?_
      conv => whnf
      refine bool_true (decide_eq_true rfl) ?_
      conv => whnf
      exact ⟨(s + 1,.lst (svs (okS f L u (s + 1))) (okS f L u (s + 1)).length (.ch 2),[.chain j 1 3,.chain (okS f L u (s + 1)).length 1 23]),⟨h,.inr (.inr ⟨by rw [e3];first | exact hok | simp,_,rfl,rfl⟩)⟩,by show 2 ^ f.length - (s + 1) < 2 ^ f.length - s;omega,by simp only [List.length_cons,List.length_nil];omega,by show AtG _ _ _ _ _ _ _ [(13,.lst (svs (okS f L u (s + 1))) (okS f L u (s + 1)).length (.ch 2)),(50,nv (s + 1))] _ [.chain j 1 3,.chain (okS f L u (s + 1)).length 1 23] _;rw [e3];exact (by refine ⟨rfl,rfl,rfl,rfl,rfl,rfl,3,rfl,?_,?_⟩ <;> repeat' (first | exact trivial | exact rfl | exact ⟨_,rfl,WkV.refl _⟩ | exact ⟨_,rfl,WkV.own _ _ _⟩ | exact Nat.zero_le _ | exact ⟨_,rfl,WkV.int hs1⟩ | exact ⟨_,rfl,WkV.eq (app_K e5 _)⟩ | exact ⟨_,rfl,WkV.eq (app_K0 e5 _)⟩ | exact app_L _ _ | exact app_L0 _ | exact Nat.le_of_ble_eq_true rfl | exact bdl_no (by assumption) | exact bdl_no (flat_no _) | exact bdl_no (ivs_no _) | exact bdl_no (svs_no _) | exact Nat.max_le.2 ⟨Nat.le_of_ble_eq_true rfl,bdl_no (ivs_no _)⟩ | exact Nat.max_le.2 ⟨Nat.le_of_ble_eq_true rfl,bdl_no (svs_no _)⟩ | apply And.intro))⟩
     ·rw [if_neg h3] at e3
      refine bool_false (decide_eq_false h3) ?_
      conv => whnf
      exact ⟨(s + 1,.lst (svs (okS f L u (s + 1))) (okS f L u (s + 1)).length (.ch 2),[.chain j 1 3,.chain (okS f L u (s + 1)).length 1 23]),⟨h,.inr (.inr ⟨by rw [e3];first | exact hok | simp,_,rfl,rfl⟩)⟩,by show 2 ^ f.length - (s + 1) < 2 ^ f.length - s;omega,by simp only [List.length_cons,List.length_nil];omega,by show AtG _ _ _ _ _ _ _ [(13,.lst (svs (okS f L u (s + 1))) (okS f L u (s + 1)).length (.ch 2)),(50,nv (s + 1))] _ [.chain j 1 3,.chain (okS f L u (s + 1)).length 1 23] _;rw [e3];exact (by refine ⟨rfl,rfl,rfl,rfl,rfl,rfl,3,rfl,?_,?_⟩ <;> repeat' (first | exact trivial | exact rfl | exact ⟨_,rfl,WkV.refl _⟩ | exact ⟨_,rfl,WkV.own _ _ _⟩ | exact Nat.zero_le _ | exact ⟨_,rfl,WkV.int hs1⟩ | exact ⟨_,rfl,WkV.eq (app_K e5 _)⟩ | exact ⟨_,rfl,WkV.eq (app_K0 e5 _)⟩ | exact app_L _ _ | exact app_L0 _ | exact Nat.le_of_ble_eq_true rfl | exact bdl_no (by assumption) | exact bdl_no (flat_no _) | exact bdl_no (ivs_no _) | exact bdl_no (svs_no _) | exact Nat.max_le.2 ⟨Nat.le_of_ble_eq_true rfl,bdl_no (ivs_no _)⟩ | exact Nat.max_le.2 ⟨Nat.le_of_ble_eq_true rfl,bdl_no (svs_no _)⟩ | apply And.intro))⟩
  ·have hs0:s = 2 ^ f.length :=by omega
   have hb :=bestW (okS f L u s) 2 (by omega) fun x k => by have :=okS_mem f L u k;omega
   have lq :=ivs_no (bstS (okS f L u s))
   refine bool_false (decide_eq_false (show ¬ Int.ofNat s < Int.ofNat (2 ^ f.length) by show ¬ (s:Int) < ((2 ^ f.length:Nat):Int);omega)) ?_
   conv => whnf
   have hE0:okS f L u s ≠ [] :=hok
   have hb1:decide (((okS f L u s).length:Int) > 0) = true :=decide_eq_true (by have :=List.length_pos_iff.2 hE0;omega)
   rw [hb1] at hb
   rcases sv_cases (bstS (okS f L u s)) with ⟨_,e6⟩ | e6
   ·rw [e6] at hb
    refine .inl ?_
    conv => whnf
    refine sym_pure hC (hb) ?_
    conv => whnf
    rw [← hs0,setV,if_neg hE0,if_neg hE0,e6]
    exact ⟨_,rfl,Wk.refl _⟩
   ·rw [e6] at hb
    refine .inl ?_
    conv => whnf
    refine sym_pure hC (hb) ?_
    conv => whnf
    rw [← hs0,setV,if_neg hE0,if_neg hE0,e6]
    exact ⟨_,rfl,Wk.refl _⟩
end
end Go.Abs.Seat
