/-
  The law TrainLess: the walk.
-/
import Derived.Test.YtpjclnoehlflcaaGreatDoorU9
import Derived.Test.YtpjclnoehlflcaaGreatDoorT28
import Derived.Test.YtpjclnoehlflcaaGreatDoorU10
import Derived.Test.YtpjclnoehlflcaaGreatDoorU5
/-! The law TrainLess: the walk. -/
namespace Go.Abs.Seat
noncomputable section
open Go Go.Abs Go.Proofs.Tryz
set_option maxRecDepth 100000
set_option maxHeartbeats 40000000
attribute [local irreducible] IntKind.wrap pEq pSlice
theorem take_gi (l:List Int) {i:Nat} (h:i < l.length):l.take (i + 1) = l.take i ++ [gi l i] :=by
 rw [List.take_succ_eq_append_getElem h]
 simp [gi,List.getD,h]
theorem drop_iv:∀ (l:List Int) (i:Nat),dropN (i * 1) (ivs l) = ivs (l.drop i)
 | _,0 => rfl
 | [],i + 1 => by rw [dropN_eq,List.drop_eq_nil_of_le (Nat.zero_le _),List.drop_eq_nil_of_le (Nat.zero_le _)];rfl
 |p :: r,i + 1 => by
  rw [show (i + 1) * 1 = i * 1 + 1 by omega,List.drop_succ_cons,← drop_iv r i]
  rfl
theorem wvb {x y:Bool} (h:x = y):WkV (.bool x) (.bool y) :=h ▸ WkV.refl _
theorem tak_dr (f:List Int) (j:Nat):takeN ((f.length - j) * 1) (dropN (j * 1) (ivs f)) = some (ivs (f.drop j)) :=by
 rw [drop_iv,← List.length_drop]
 exact takeN_ivs _
theorem slice_fr {T:Tr TypeInfo} {t e:TypeId} {inf:TypeInfo} {xs ys:List AV} {n:Nat} {k:IntKind} {z:Int} {l m:Nat} (hT:tyU T t = some (.slice e)) (hi:T.get e = some inf) (hz:z = Int.ofNat l) (hn:l ≤ n) (hm:n - l = m)
  (hy:takeN ((n - l) * inf.size) (dropN (l * inf.size) xs) = some ys):pSlice T t (.lst xs n .no) (some (.int k z)) none = .chk (decide (l * inf.size ≤ xs.length)) (.ret (.lst ys m .no)) :=by
 subst hz hm
 unfold pSlice
 have e1:bnd none n n = some n :=rfl
 have e2:bnd (some (.int k (Int.ofNat l))) 0 n = some l :=by
  unfold bnd
  simp only [Int.ofNat_eq_natCast]
  rw [zT (show (0:Int) ≤ (l:Int) by omega),zT (show (l:Int) ≤ (n:Int) by omega)]
  rfl
 simp only [hT,hi,e1,e2,hy]
theorem wown {xs ys:List AV} {n m:Nat} {o:Own} (h1:xs = ys) (h2:n = m):WkV (.lst xs n o) (.lst ys m .no) :=by subst h1 h2;exact WkV.own _ _ _
theorem ivs_app2:∀ l r:List Int,ivs (l ++ r) = ivs l ++ ivs r
 | [],_ => rfl
 |x :: l,r => by rw [List.cons_append];show iv x :: ivs (l ++ r) = _;rw [ivs_app2 l r];rfl
theorem lenIs_ivz (l:List Int) (z:Int):lenIs (ivs l ++ [iv z]) ((l.length + (0 + 1)) * 1) = true :=by
 have :=lenIs_ivs (l ++ [z])
 rw [ivs_app,List.length_append] at this
 exact this
abbrev ShEnd (v1 v2:AV) (n1 n2 e1 e2:Int):Prop :=(v1 = .nils ∨ ∃ xs k,v1 = .lst xs k .no ∧ Lives noL xs) ∧ (v2 = .nils ∨ ∃ xs k,v2 = .lst xs k .no ∧ Lives noL xs) ∧ ((e1 = 5 ∧ (e2 = 5 ∨ e2 = 0)) ∨ (e1 = 0 ∧ e2 = 0 ∧ n2 ≤ n1))
abbrev StEnd (B1 B2:List Int) (e1 e2:Int):Prop :=B1.length ≤ 8 ∧ B2.length ≤ 8 ∧ ((e1 = 5 ∧ (e2 = 5 ∨ e2 = 0)) ∨ (e1 = 0 ∧ e2 = 0 ∧ B2.length ≤ B1.length))
end
end Go.Abs.Seat
