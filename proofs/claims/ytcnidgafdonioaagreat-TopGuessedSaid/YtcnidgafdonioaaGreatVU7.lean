/-
  What a train turns its hand by.
-/
import Derived.Test.YtcnidgafdonioaaGreatVT2
import Derived.Test.YtcnidgafdonioaaGreatVU4
namespace Go.Abs.Seat
open Go Go.Abs Go.Proofs.Tryz
set_option maxRecDepth 100000
set_option maxHeartbeats 4000000
attribute [local irreducible] IntKind.wrap pEq
theorem mul1N {a:Nat} (h:a < 9223372036854775808):IntKind.i64.wrap (1 * Int.ofNat a) = Int.ofNat (1 * a) :=mulN (a :=1) (b :=a) (by omega)
theorem product1 (a0:Nat) (h0:a0 ≤ 60):Pure prog 135 [.lst [nv a0] 1 .no] (nv (1 * a0)) :=by
 refine pure_sym hE rfl ⟨⟨⟨trivial,trivial⟩,fun _ h => nomatch h⟩,trivial⟩ trivial fun S q pc hS hq hC hE => ?_
 conv => whnf
 refine sym_unroll hE hS ?_
 conv => whnf
 rw [show IntKind.i64.wrap (0 + 1) = 1 from wrapI (by decide) (by decide),mul1N (a :=a0) (by omega)]
 refine sym_unroll hE hS ?_
 conv => whnf
 exact ⟨_,rfl,Wk.refl _⟩
theorem product2 (a0 a1:Nat) (h0:a0 ≤ 60) (h1:a1 ≤ 60):Pure prog 135 [.lst [nv a0,nv a1] 2 .no] (nv (1 * a0 * a1)) :=by
 refine pure_sym hE rfl ⟨⟨⟨trivial,trivial,trivial⟩,fun _ h => nomatch h⟩,trivial⟩ trivial fun S q pc hS hq hC hE => ?_
 have q1:1 * a0 * a1 ≤ 60 * 60 :=Nat.mul_le_mul (show 1 * a0 ≤ 60 by omega) (by omega)
 conv => whnf
 refine sym_unroll hE hS ?_
 conv => whnf
 rw [show IntKind.i64.wrap (0 + 1) = 1 from wrapI (by decide) (by decide),mul1N (a :=a0) (by omega)]
 refine sym_unroll hE hS ?_
 conv => whnf
 rw [show IntKind.i64.wrap (1 + 1) = 2 from wrapI (by decide) (by decide),mulN (a :=1 * a0) (b :=a1) (by omega)]
 refine sym_unroll hE hS ?_
 conv => whnf
 exact ⟨_,rfl,Wk.refl _⟩
theorem product3 (a0 a1 a2:Nat) (h0:a0 ≤ 60) (h1:a1 ≤ 60) (h2:a2 ≤ 60):Pure prog 135 [.lst [nv a0,nv a1,nv a2] 3 .no] (nv (1 * a0 * a1 * a2)) :=by
 refine pure_sym hE rfl ⟨⟨⟨trivial,trivial,trivial,trivial⟩,fun _ h => nomatch h⟩,trivial⟩ trivial fun S q pc hS hq hC hE => ?_
 have q1:1 * a0 * a1 ≤ 60 * 60 :=Nat.mul_le_mul (show 1 * a0 ≤ 60 by omega) (by omega)
 have q2:1 * a0 * a1 * a2 ≤ 3600 * 60 :=Nat.mul_le_mul (show 1 * a0 * a1 ≤ 3600 by omega) (by omega)
 conv => whnf
 refine sym_unroll hE hS ?_
 conv => whnf
 rw [show IntKind.i64.wrap (0 + 1) = 1 from wrapI (by decide) (by decide),mul1N (a :=a0) (by omega)]
 refine sym_unroll hE hS ?_
 conv => whnf
 rw [show IntKind.i64.wrap (1 + 1) = 2 from wrapI (by decide) (by decide),mulN (a :=1 * a0) (b :=a1) (by omega)]
 refine sym_unroll hE hS ?_
 conv => whnf
 rw [show IntKind.i64.wrap (2 + 1) = 3 from wrapI (by decide) (by decide),mulN (a :=1 * a0 * a1) (b :=a2) (by omega)]
 refine sym_unroll hE hS ?_
 conv => whnf
 exact ⟨_,rfl,Wk.refl _⟩
theorem turns1 (a0 b0:Nat) (h0:(1 ≤ a0 ∧ a0 ≤ 60) ∧ (1 ≤ b0 ∧ b0 ≤ 60)):Pure prog 87 [.lst [nv a0,nv b0] 1 .no] (fv (Int.ofNat ((1 * a0) / Nat.gcd (1 * a0) (1 * b0))) (Int.ofNat ((1 * b0) / Nat.gcd (1 * a0) (1 * b0)))) :=by
 refine pure_sym hE rfl ⟨⟨⟨trivial,trivial,trivial⟩,fun _ h => nomatch h⟩,trivial⟩ ⟨trivial,trivial,trivial⟩ fun S q pc hS hq hC hE => ?_
 have hp:1 ≤ 1 * b0 :=by
  omega
 conv => whnf
 refine sym_unroll hE hS ?_
 conv => whnf
 refine sym_drawn hS (by kernel_rfl) ?_
 conv => whnf
 rw [show IntKind.i64.wrap (0 + 1) = 1 from wrapI (by decide) (by decide)]
 refine sym_unroll hE hS ?_
 conv => whnf
 refine sym_pureW hC (product1 a0 h0.1.2) ?_
 conv => whnf
 refine sym_pureW hC (product1 b0 h0.2.2) ?_
 conv => whnf
 refine sym_pure hC (reduced_pure (1 * a0) (1 * b0) (by omega) (by omega) hp) ?_
 conv => whnf
 exact ⟨_,rfl,Wk.refl _⟩
theorem turns2 (a0 b0 a1 b1:Nat) (h0:(1 ≤ a0 ∧ a0 ≤ 60) ∧ (1 ≤ b0 ∧ b0 ≤ 60)) (h1:(1 ≤ a1 ∧ a1 ≤ 60) ∧ (1 ≤ b1 ∧ b1 ≤ 60)):Pure prog 87 [.lst [nv a0,nv b0,nv a1,nv b1] 2 .no] (fv (Int.ofNat ((1 * a0 * a1) / Nat.gcd (1 * a0 * a1) (1 * b0 * b1))) (Int.ofNat ((1 * b0 * b1) / Nat.gcd (1 * a0 * a1) (1 * b0 * b1)))) :=by
 refine pure_sym hE rfl ⟨⟨⟨trivial,trivial,trivial,trivial,trivial⟩,fun _ h => nomatch h⟩,trivial⟩ ⟨trivial,trivial,trivial⟩ fun S q pc hS hq hC hE => ?_
 have q1:1 * a0 * a1 ≤ 60 * 60 :=Nat.mul_le_mul (show 1 * a0 ≤ 60 by omega) (by omega)
 have p1:1 * b0 * b1 ≤ 60 * 60 :=Nat.mul_le_mul (show 1 * b0 ≤ 60 by omega) (by omega)
 have hp:1 ≤ 1 * b0 * b1 :=by
  have r1:1 ≤ 1 * b0 * b1 :=Nat.mul_pos (show 0 < 1 * b0 by omega) (by omega)
  omega
 conv => whnf
 refine sym_unroll hE hS ?_
 conv => whnf
 refine sym_drawn hS (by kernel_rfl) ?_
 conv => whnf
 rw [show IntKind.i64.wrap (0 + 1) = 1 from wrapI (by decide) (by decide)]
 refine sym_unroll hE hS ?_
 conv => whnf
 refine sym_drawn hS (by kernel_rfl) ?_
 conv => whnf
 rw [show IntKind.i64.wrap (1 + 1) = 2 from wrapI (by decide) (by decide)]
 refine sym_unroll hE hS ?_
 conv => whnf
 refine sym_pureW hC (product2 a0 a1 h0.1.2 h1.1.2) ?_
 conv => whnf
 refine sym_pureW hC (product2 b0 b1 h0.2.2 h1.2.2) ?_
 conv => whnf
 refine sym_pure hC (reduced_pure (1 * a0 * a1) (1 * b0 * b1) (by omega) (by omega) hp) ?_
 conv => whnf
 exact ⟨_,rfl,Wk.refl _⟩
theorem turns3 (a0 b0 a1 b1 a2 b2:Nat) (h0:(1 ≤ a0 ∧ a0 ≤ 60) ∧ (1 ≤ b0 ∧ b0 ≤ 60)) (h1:(1 ≤ a1 ∧ a1 ≤ 60) ∧ (1 ≤ b1 ∧ b1 ≤ 60)) (h2:(1 ≤ a2 ∧ a2 ≤ 60) ∧ (1 ≤ b2 ∧ b2 ≤ 60)):Pure prog 87 [.lst [nv a0,nv b0,nv a1,nv b1,nv a2,nv b2] 3 .no] (fv (Int.ofNat ((1 * a0 * a1 * a2) / Nat.gcd (1 * a0 * a1 * a2) (1 * b0 * b1 * b2))) (Int.ofNat ((1 * b0 * b1 * b2) / Nat.gcd (1 * a0 * a1 * a2) (1 * b0 * b1 * b2)))) :=by
 refine pure_sym hE rfl ⟨⟨⟨trivial,trivial,trivial,trivial,trivial,trivial,trivial⟩,fun _ h => nomatch h⟩,trivial⟩ ⟨trivial,trivial,trivial⟩ fun S q pc hS hq hC hE => ?_
 have q1:1 * a0 * a1 ≤ 60 * 60 :=Nat.mul_le_mul (show 1 * a0 ≤ 60 by omega) (by omega)
 have q2:1 * a0 * a1 * a2 ≤ 3600 * 60 :=Nat.mul_le_mul (show 1 * a0 * a1 ≤ 3600 by omega) (by omega)
 have p1:1 * b0 * b1 ≤ 60 * 60 :=Nat.mul_le_mul (show 1 * b0 ≤ 60 by omega) (by omega)
 have p2:1 * b0 * b1 * b2 ≤ 3600 * 60 :=Nat.mul_le_mul (show 1 * b0 * b1 ≤ 3600 by omega) (by omega)
 have hp:1 ≤ 1 * b0 * b1 * b2 :=by
  have r1:1 ≤ 1 * b0 * b1 :=Nat.mul_pos (show 0 < 1 * b0 by omega) (by omega)
  have r2:1 ≤ 1 * b0 * b1 * b2 :=Nat.mul_pos (show 0 < 1 * b0 * b1 by omega) (by omega)
  omega
 conv => whnf
 refine sym_unroll hE hS ?_
 conv => whnf
 refine sym_drawn hS (by kernel_rfl) ?_
 conv => whnf
 rw [show IntKind.i64.wrap (0 + 1) = 1 from wrapI (by decide) (by decide)]
 refine sym_unroll hE hS ?_
 conv => whnf
 refine sym_drawn hS (by kernel_rfl) ?_
 conv => whnf
 rw [show IntKind.i64.wrap (1 + 1) = 2 from wrapI (by decide) (by decide)]
 refine sym_unroll hE hS ?_
 conv => whnf
 refine sym_drawn hS (by kernel_rfl) ?_
 conv => whnf
 rw [show IntKind.i64.wrap (2 + 1) = 3 from wrapI (by decide) (by decide)]
 refine sym_unroll hE hS ?_
 conv => whnf
 refine sym_pureW hC (product3 a0 a1 a2 h0.1.2 h1.1.2 h2.1.2) ?_
 conv => whnf
 refine sym_pureW hC (product3 b0 b1 b2 h0.2.2 h1.2.2 h2.2.2) ?_
 conv => whnf
 refine sym_pure hC (reduced_pure (1 * a0 * a1 * a2) (1 * b0 * b1 * b2) (by omega) (by omega) hp) ?_
 conv => whnf
 exact ⟨_,rfl,Wk.refl _⟩
def flat:List (Int × Int) → List AV
 | [] => []
 |p :: r => iv p.1 :: iv p.2 :: flat r
abbrev pv (l:List (Int × Int)):AV :=.lst (flat l) l.length .no
theorem flat_len:∀ l,(flat l).length = l.length * 2
 | [] => rfl
 |p :: r => by simp only [flat,List.length_cons,flat_len r];omega
theorem flat_no:∀ l,Lives noL (flat l)
 | [] => trivial
 | _ :: r => ⟨trivial,trivial,flat_no r⟩
structure TV (v:AV) (k x y:Nat):Prop where
 sh:∃ xs,v = .lst xs k .no ∧ Lives noL xs
 k1:1 ≤ k ∧ k ≤ 3
 isT:Pure prog 73 [v] (.bool true)
 rT:Pure prog 10 [v] (.bool true)
 tu:Pure prog 87 [v] (fv (Int.ofNat x) (Int.ofNat y))
 bx:1 ≤ x ∧ x ≤ 216000
 by_:1 ≤ y ∧ y ≤ 216000
 g:Nat.gcd x y = 1
theorem red_le {a b:Nat} (ha:1 ≤ a ∧ a ≤ 216000) (hb:1 ≤ b ∧ b ≤ 216000) :
  (1 ≤ a / Nat.gcd a b ∧ a / Nat.gcd a b ≤ 216000) ∧ (1 ≤ b / Nat.gcd a b ∧ b / Nat.gcd a b ≤ 216000) ∧ Nat.gcd (a / Nat.gcd a b) (b / Nat.gcd a b) = 1 :=by
 have hg:1 ≤ Nat.gcd a b :=gcd_pos_r hb.1
 have h1:Nat.gcd a b ≤ a :=Nat.le_of_dvd (by omega) (Nat.gcd_dvd_left a b)
 have h2:Nat.gcd a b ≤ b :=Nat.le_of_dvd (by omega) (Nat.gcd_dvd_right a b)
 have h3 :=red_gcd (n :=a) hb.1
 have h4:a / Nat.gcd a b ≤ a :=Nat.div_le_self _ _
 have h5:b / Nat.gcd a b ≤ b :=Nat.div_le_self _ _
 have h6:1 ≤ a / Nat.gcd a b :=Nat.div_pos h1 (by omega)
 exact ⟨⟨h6,by omega⟩,⟨h3.2,by omega⟩,h3.1⟩



structure TS (v:AV) (k:Nat) (b:Bool):Prop where
 sh:v = .nils ∧ k = 0 ∨ ∃ xs,v = .lst xs k .no ∧ Lives noL xs
 isT:Pure prog 73 [v] (.bool b)
 rT:k ≤ 8 → Pure prog 10 [v] (.bool b)
theorem TS.no {v:AV} {k:Nat} {b:Bool} (h:TS v k b):Live noL v :=by
 rcases h.sh with ⟨rfl,_⟩ | ⟨xs,rfl,hl⟩
 ·trivial
 ·exact ⟨hl,fun _ h => nomatch h⟩
end Go.Abs.Seat
/-! Off, Lasts, Between: the program's and the document's. -/
namespace Go.Abs.Seat
open Go Go.Abs Go.Proofs.Tryz
set_option maxRecDepth 100000
set_option maxHeartbeats 4000000
attribute [local irreducible] IntKind.wrap pEq
mutual
theorem bd_no:∀ (v:AV),Live noL v → bd v = 0
 | .unk,_ => rfl
 | .int _ _,_ => rfl
 | .bool _,_ => rfl
 | .str _,_ => rfl
 | .nilp,_ => rfl
 | .ptr _ _,h => h.elim
 | .lptr xs _,h => bdl_no0 xs h
 | .gp _ _,_ => rfl
 | .nils,_ => rfl
 | .slc _ _ _ _,h => h.elim
 | .lst xs _ .no,h => bdl_no0 xs h.1
 | .lst xs _ .full,h => bdl_no0 xs h.1
 | .lst xs _ (.ch c),h => (h.2 c rfl).elim
 | .nilm,_ => rfl
 | .map _,h => h.elim
 | .nilf,_ => rfl
 | .func _ f c,h => by show Nat.max (bdl f) (bdl c) = 0;rw [bdl_no0 f h.1,bdl_no0 c h.2];rfl
 | .yld _,h => h.elim
 | .nili,_ => rfl
 | .iface _ a,h => bd_no a h
 | .agg cs,h => bdl_no0 cs h
 | .tup cs,h => bdl_no0 cs h
theorem bdl_no0:∀ (xs:List AV),Lives noL xs → bdl xs = 0
 | [],_ => rfl
 |x :: xs,h => by show Nat.max (bd x) (bdl xs) = 0;rw [bd_no x h.1,bdl_no0 xs h.2];rfl
end
theorem bdl_no {xs:List AV} (h:Lives noL xs) {n:Nat}:bdl xs ≤ n :=by rw [bdl_no0 xs h];exact Nat.zero_le _
theorem bz {v:AV} (h:Live noL v) {n:Nat}:bd v ≤ n :=by rw [bd_no v h];exact Nat.zero_le _
theorem plan_as {p p':Plan} {y:Bool} {s n:Nat} {h:Tr AObj} {K:KP} (e:p = p') (k:runP p' y s h n K):runP p y s h n K :=e ▸ k
theorem nthP {xs:List AV} {o:Nat} {v:AV} (e:nth xs o = some v):(match nth xs o with | some v => Plan.ret v | none => Plan.fail) = Plan.ret v :=by rw [e]
end Go.Abs.Seat

namespace Go.Abs.Seat
open Go Go.Abs Go.Proofs.Tryz
set_option maxRecDepth 100000
set_option maxHeartbeats 4000000
attribute [local irreducible] IntKind.wrap pEq

def ivs:List Int → List AV
 | [] => []
 |x :: r => iv x :: ivs r
abbrev nl (l:List Int):AV :=.lst (ivs l) l.length .no
abbrev gi (l:List Int) (i:Nat):Int :=l.getD i 0
theorem ivs_len:∀ l,(ivs l).length = l.length
 | [] => rfl
 | _ :: r => by simp only [ivs,List.length_cons,ivs_len r]
theorem ivs_no:∀ l,Lives noL (ivs l)
 | [] => trivial
 | _ :: r => ⟨trivial,ivs_no r⟩
theorem nl_no (l:List Int):Live noL (nl l) :=⟨ivs_no l,fun _ h => nomatch h⟩
theorem nth_ivs:∀ (l:List Int) (i:Nat),i < l.length → nth (ivs l) i = some (iv (gi l i))
 |x :: r,0,_ => rfl
 |x :: r,i + 1,h => nth_ivs r i (by simpa using h)
 | [],i,h => absurd h (Nat.not_lt_zero _)
theorem nth_ivs1 {l:List Int} {i:Nat} (h:i < l.length):nth (ivs l) (i * 1) = some (iv (gi l i)) :=by rw [Nat.mul_one];exact nth_ivs l i h
theorem inR_t {i n:Nat} (h:i < n):inR (Int.ofNat i) n = true :=by
 unfold inR
 rw [decide_eq_true (show (0:Int) ≤ Int.ofNat i by show (0:Int) ≤ (i:Int);omega),decide_eq_true (show Int.ofNat i < (n:Int) by show (i:Int) < (n:Int);omega)]
 rfl
def IL (v:AV) (l:List Int):Prop :=v = .nils ∧ l = [] ∨ v = nl l
theorem IL.no {v:AV} {l:List Int} (h:IL v l):Live noL v :=by
 rcases h with ⟨rfl,_⟩ | rfl
 ·trivial
 ·exact nl_no l
def kp (L u:Int):Int → List Int → Prop
 |last,[] => u - last ≤ L
 |last,x :: r => if x < u then x - last ≤ L ∧ kp L u x r else u - last ≤ L
end Go.Abs.Seat
/-! The best of some settings. -/
namespace Go.Abs.Seat
open Go Go.Abs Go.Proofs.Tryz
set_option maxRecDepth 100000
set_option maxHeartbeats 4000000
attribute [local irreducible] pEq
section
attribute [local irreducible] IntKind.wrap
def sv:List Int → AV
 | [] => .nils
 |x :: r => nl (x :: r)
theorem sv_no (l:List Int):Live noL (sv l) :=by
 cases l with
 |nil => trivial
 |cons x r => exact nl_no _
end
def svs:List (List Int) → List AV
 | [] => []
 |x :: r => sv x :: svs r
theorem svs_no:∀ l,Lives noL (svs l)
 | [] => trivial
 |x :: r => ⟨sv_no x,svs_no r⟩
abbrev gs (l:List (List Int)) (i:Nat):List Int :=l.getD i []
end Go.Abs.Seat

namespace Go.Abs.Seat
open Go Go.Abs Go.Proofs.Tryz
set_option maxRecDepth 100000
set_option maxHeartbeats 4000000
attribute [local irreducible] IntKind.wrap pEq
def foS:List Nat → Nat × Nat
 | [] => (1,0)
 |x :: r => (x * (foS r).1 + (foS r).2,(foS r).1)
def zl (l:List Nat):List Int :=l.map Int.ofNat
theorem zl_len (l:List Nat):(zl l).length = l.length :=List.length_map _



theorem zl_app (l:List Nat) (q:Nat):ivs (zl (l ++ [q])) = ivs (zl l) ++ [nv q] :=by
 induction l with
 |nil => rfl
 |cons x l ih => simp only [List.cons_append,zl,List.map_cons,ivs];exact congrArg _ ih
theorem app_ok (l:List Nat) (q c:Nat):AV.lst (ivs (zl l) ++ [nv q]) (l.length + (0 + 1)) (.ch c) = .lst (ivs (zl (l ++ [q]))) (l ++ [q]).length (.ch c) :=by
 rw [zl_app,List.length_append];rfl
theorem app_ch (l:List Nat) (q:Nat):AObj.chain (l.length + (0 + 1)) 1 3 = .chain (l ++ [q]).length 1 3 :=by
 rw [List.length_append];rfl
theorem lenIs_eq:∀ (l:List AV),lenIs l l.length = true
 | [] => rfl
 | _ :: r => lenIs_eq r
theorem lenIs_zl (l:List Nat):lenIs (ivs (zl l)) (l.length * 1) = true :=by
 have :=lenIs_eq (ivs (zl l))
 rw [ivs_len,zl_len] at this
 rw [Nat.mul_one];exact this
theorem wkl_ivs:∀ l:List Int,wkl (ivs l) = ivs l
 | [] => rfl
 |x :: r => by simp only [ivs,wkl,wk,wkl_ivs r]
theorem wk_zl (l:List Nat) (c:Nat):Wk (.lst (ivs (zl l)) l.length (.ch c)) (nl (zl l)) :=by
 have :=Wk.wk (.lst (ivs (zl l)) l.length (.ch c))
 simp only [wk,wkl_ivs] at this
 rw [nl,zl_len]
 exact this
theorem wk_tup {x y:AV} {r:List AV} (h:Wk x y):Wk (.tup (x :: r)) (.tup (y :: r)) :=by
 intro g w u hu
 obtain ⟨vs,e,h1⟩ :=hu
 obtain ⟨a,bs,e2,h2,h3⟩ :=h1
 exact ⟨vs,e,a,bs,e2,h g w a h2,h3⟩
def lastNe:List Nat → Prop
 | [] => True
 | [x] => x ≠ 1
 | _ :: y :: r => lastNe (y :: r)
theorem foS_pos2:∀ (r:List Nat),(∀ y,y ∈ r → 1 ≤ y) → 1 ≤ (foS r).1
 | [],_ => Nat.le_refl 1
 |x :: r,h => by
  have h1 :=foS_pos2 r fun y hy => h y (by simp [hy])
  have h2:1 ≤ x * (foS r).1 :=Nat.mul_pos (h x (by simp)) h1
  show 1 ≤ x * (foS r).1 + (foS r).2
  omega
theorem foS_lt:∀ (x:Nat) (r:List Nat),(∀ y,y ∈ x :: r → 1 ≤ y) → lastNe (x :: r) → (foS (x :: r)).2 < (foS (x :: r)).1
 |x,[],h,hl => by
  have h1 :=h x (by simp)
  have h2:x ≠ 1 :=hl
  show 1 < x * 1 + 0
  omega
 |x,y :: r,h,_ => by
  have h1 :=h x (by simp)
  have h2 :=foS_pos2 (y :: r) fun z hz => h z (by simp [hz])
  have h3:1 ≤ (foS (y :: r)).2 :=foS_pos2 r fun z hz => h z (by simp [hz])
  have h4:1 * (foS (y :: r)).1 ≤ x * (foS (y :: r)).1 :=Nat.mul_le_mul_right _ h1
  show (foS (y :: r)).1 < x * (foS (y :: r)).1 + (foS (y :: r)).2
  omega
theorem wk_own {xs:List AV} {n m:Nat} {own:Own} (e:n = m):Wk (.lst xs n own) (.lst xs m .no) :=by
 subst e
 intro g w u hu
 simp only [VRel] at hu ⊢
 obtain ⟨b,off,cap,h1,h2,h3,h4,_⟩ :=hu
 exact ⟨b,off,cap,h1,h2,h3,h4,trivial⟩
theorem pSrc_eq {T:Tr TypeInfo} {tx e:TypeId} {sz:Nat} {x:AV} {k:List AV → Nat → Plan} {ys l:List AV} {m:Nat} {own:Own} (hT:tyU T tx = some (.slice e)) (hx:x = .lst ys m own) (ht:takeN (m * sz) ys = some l):pSrc T tx sz x k = .chk (allCells l) (k l m) :=by
 subst hx
 unfold pSrc
 simp only [hT,ht]
theorem allCells_ivs:∀ l:List Int,allCells (ivs l) = true
 | [] => rfl
 | _ :: r => allCells_ivs r
theorem takeN_all:∀ l:List AV,takeN l.length l = some l
 | [] => rfl
 |x :: r => by rw [List.length_cons,takeN,takeN_all r]
theorem takeN_ivs (l:List Int):takeN (l.length * 1) (ivs l) = some (ivs l) :=by
 have :=takeN_all (ivs l)
 rwa [ivs_len,← Nat.mul_one l.length] at this
end Go.Abs.Seat
namespace Go.Abs.Seat
noncomputable section
open Go Go.Abs Go.Proofs.Tryz
set_option maxRecDepth 100000
set_option maxHeartbeats 40000000
attribute [local irreducible] IntKind.wrap pEq

end
end Go.Abs.Seat
namespace Go.Abs.Seat
open Go Go.Abs Go.Proofs.Tryz
set_option maxRecDepth 100000
set_option maxHeartbeats 4000000
attribute [local irreducible] IntKind.wrap pEq

end Go.Abs.Seat
