/-
  The document's order of trains.
  Whether two trains are the same: the document's.
  The document's near of no products; what ref.Nearest needs beside.
  A train of listed pairs is a train.
-/
import Derived.Test.YtpjclnoehlflcaaGreatDoorU10
import Derived.Test.YtpjclnoehlflcaaGreatDoorT51
import Derived.Test.YtpjclnoehlflcaaGreatDoorU6
import Derived.Test.YtpjclnoehlflcaaGreatDoorU7
/-! The document's order of trains. -/
namespace Go.Abs.Seat
noncomputable section
open Go Go.Abs Go.Proofs.Tryz
set_option maxRecDepth 100000
set_option maxHeartbeats 40000000
attribute [local irreducible] IntKind.wrap pEq
end
end Go.Abs.Seat

/-! Whether two trains are the same: the document's. -/
namespace Go.Abs.Seat
noncomputable section
open Go Go.Abs Go.Proofs.Tryz
set_option maxRecDepth 100000
set_option maxHeartbeats 40000000
attribute [local irreducible] IntKind.wrap pEq
end
end Go.Abs.Seat

/-! The document's near of no products; what ref.Nearest needs beside. -/
namespace Go.Abs.Seat
noncomputable section
open Go Go.Abs Go.Proofs.Tryz
set_option maxRecDepth 100000
set_option maxHeartbeats 40000000
attribute [local irreducible] IntKind.wrap pEq
end
end Go.Abs.Seat

/-! A train of listed pairs is a train. -/
namespace Go.Abs.Seat
noncomputable section
open Go Go.Abs Go.Proofs.Tryz
set_option maxRecDepth 100000
set_option maxHeartbeats 4000000
theorem tv_zp {tq:Nat → Prop} (ht:∀ n,tq n → 4 ≤ n ∧ n ≤ 60) {t:List (Nat × Nat)} (hl:1 ≤ t.length ∧ t.length ≤ 3) (h:AllT tq t):TV (pv (zp t)) t.length (redF (xP t) (yP t)).1 (redF (xP t) (yP t)).2 :=by
 have key:∀ n,tq n → tth (Int.ofNat n) :=fun n hn => by
  have :=ht n hn
  unfold tth
  simp only [Int.ofNat_eq_natCast]
  omega
 match t,hl,h with
 | [(x0,y0)],_,h =>
  have i :=isTrain1 (Int.ofNat x0) (Int.ofNat y0)
  have r :=rTrain1 (Int.ofNat x0) (Int.ofNat y0)
  have g0 :=ht _ h.1.1
  have g1 :=ht _ h.1.2
  rw [zT (show gd [(Int.ofNat x0,Int.ofNat y0)] from ⟨⟨key _ h.1.1,key _ h.1.2⟩,trivial⟩)] at i r
  have b :=red_le (a :=1 * x0) (b :=1 * y0) (by omega) (by omega)
  have e1:xP [(x0,y0)] = 1 * x0 :=by show x0 * 1 = _;omega
  have e2:yP [(x0,y0)] = 1 * y0 :=by show y0 * 1 = _;omega
  rw [e1,e2]
  exact ⟨⟨_,rfl,flat_no _⟩,⟨Nat.le_of_ble_eq_true rfl,Nat.le_of_ble_eq_true rfl⟩,i,r,turns1 x0 y0 (by omega),rTurns1 x0 y0 (by omega),b.1,b.2.1,b.2.2⟩
 | [(x0,y0),(x1,y1)],_,h =>
  have i :=isTrain2 (Int.ofNat x0) (Int.ofNat y0) (Int.ofNat x1) (Int.ofNat y1)
  have r :=rTrain2 (Int.ofNat x0) (Int.ofNat y0) (Int.ofNat x1) (Int.ofNat y1)
  have g0 :=ht _ h.1.1
  have g1 :=ht _ h.1.2
  have g2 :=ht _ h.2.1.1
  have g3 :=ht _ h.2.1.2
  rw [zT (show gd [(Int.ofNat x0,Int.ofNat y0),(Int.ofNat x1,Int.ofNat y1)] from ⟨⟨key _ h.1.1,key _ h.1.2⟩,⟨key _ h.2.1.1,key _ h.2.1.2⟩,trivial⟩)] at i r
  have q1:1 * x0 * x1 ≤ 60 * 60 :=Nat.mul_le_mul (show 1 * x0 ≤ 60 by omega) (by omega)
  have q2:1 * y0 * y1 ≤ 60 * 60 :=Nat.mul_le_mul (show 1 * y0 ≤ 60 by omega) (by omega)
  have p1:1 ≤ 1 * x0 * x1 :=Nat.mul_pos (show 0 < 1 * x0 by omega) (by omega)
  have p2:1 ≤ 1 * y0 * y1 :=Nat.mul_pos (show 0 < 1 * y0 by omega) (by omega)
  have b :=red_le (a :=1 * x0 * x1) (b :=1 * y0 * y1) (by omega) (by omega)
  have e1:xP [(x0,y0),(x1,y1)] = 1 * x0 * x1 :=by show x0 * (x1 * 1) = _;rw [Nat.mul_one,Nat.one_mul]
  have e2:yP [(x0,y0),(x1,y1)] = 1 * y0 * y1 :=by show y0 * (y1 * 1) = _;rw [Nat.mul_one,Nat.one_mul]
  rw [e1,e2]
  exact ⟨⟨_,rfl,flat_no _⟩,⟨Nat.le_of_ble_eq_true rfl,Nat.le_of_ble_eq_true rfl⟩,i,r,turns2 x0 y0 x1 y1 (by omega) (by omega),rTurns2 x0 y0 x1 y1 (by omega) (by omega),b.1,b.2.1,b.2.2⟩
 | [(x0,y0),(x1,y1),(x2,y2)],_,h =>
  have i :=isTrain3 (Int.ofNat x0) (Int.ofNat y0) (Int.ofNat x1) (Int.ofNat y1) (Int.ofNat x2) (Int.ofNat y2)
  have r :=rTrain3 (Int.ofNat x0) (Int.ofNat y0) (Int.ofNat x1) (Int.ofNat y1) (Int.ofNat x2) (Int.ofNat y2)
  have g0 :=ht _ h.1.1
  have g1 :=ht _ h.1.2
  have g2 :=ht _ h.2.1.1
  have g3 :=ht _ h.2.1.2
  have g4 :=ht _ h.2.2.1.1
  have g5 :=ht _ h.2.2.1.2
  rw [zT (show gd [(Int.ofNat x0,Int.ofNat y0),(Int.ofNat x1,Int.ofNat y1),(Int.ofNat x2,Int.ofNat y2)] from ⟨⟨key _ h.1.1,key _ h.1.2⟩,⟨key _ h.2.1.1,key _ h.2.1.2⟩,⟨key _ h.2.2.1.1,key _ h.2.2.1.2⟩,trivial⟩)] at i r
  have q1:1 * x0 * x1 ≤ 60 * 60 :=Nat.mul_le_mul (show 1 * x0 ≤ 60 by omega) (by omega)
  have q2:1 * y0 * y1 ≤ 60 * 60 :=Nat.mul_le_mul (show 1 * y0 ≤ 60 by omega) (by omega)
  have q3:1 * x0 * x1 * x2 ≤ 60 * 60 * 60 :=Nat.mul_le_mul q1 (by omega)
  have q4:1 * y0 * y1 * y2 ≤ 60 * 60 * 60 :=Nat.mul_le_mul q2 (by omega)
  have p1:1 ≤ 1 * x0 * x1 :=Nat.mul_pos (show 0 < 1 * x0 by omega) (by omega)
  have p2:1 ≤ 1 * y0 * y1 :=Nat.mul_pos (show 0 < 1 * y0 by omega) (by omega)
  have p3:1 ≤ 1 * x0 * x1 * x2 :=Nat.mul_pos p1 (by omega)
  have p4:1 ≤ 1 * y0 * y1 * y2 :=Nat.mul_pos p2 (by omega)
  have b :=red_le (a :=1 * x0 * x1 * x2) (b :=1 * y0 * y1 * y2) (by omega) (by omega)
  have e1:xP [(x0,y0),(x1,y1),(x2,y2)] = 1 * x0 * x1 * x2 :=by show x0 * (x1 * (x2 * 1)) = _;rw [Nat.mul_one,Nat.one_mul,Nat.mul_assoc]
  have e2:yP [(x0,y0),(x1,y1),(x2,y2)] = 1 * y0 * y1 * y2 :=by show y0 * (y1 * (y2 * 1)) = _;rw [Nat.mul_one,Nat.one_mul,Nat.mul_assoc]
  rw [e1,e2]
  exact ⟨⟨_,rfl,flat_no _⟩,⟨Nat.le_of_ble_eq_true rfl,Nat.le_of_ble_eq_true rfl⟩,i,r,turns3 x0 y0 x1 y1 x2 y2 (by omega) (by omega) (by omega),rTurns3 x0 y0 x1 y1 x2 y2 (by omega) (by omega) (by omega),b.1,b.2.1,b.2.2⟩
end
end Go.Abs.Seat
