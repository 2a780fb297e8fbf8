/-
  Lists as arguments: a list of pairs, opened.
-/
import Derived.Test.YtpjclnoehlflcaaGreatDoorMW
import Derived.Test.YtpjclnoehlflcaaGreatDoorMT
import Derived.Deep.SlicePairs
/-! Lists as arguments: a list of pairs, opened. -/
namespace Go.Proofs.YtpjclnoehlflcaaGreatDoor
open Go.ChangeShapes Go.WideShapes Go.ChangeAt Go.RowKit Go.Joins Go.Deep
open Go.Abs (VRels VRel LRel ghOf noL Lives Live AV Own Pure Gh)
open Go.Abs.Seat (pv flat flat_len)

/-- What a list of pairs reads as, cell by cell. -/
theorem lrel_pairs {w : World} {b : Nat} : ∀ (n off : Nat), (∀ i, i < n → ∃ z0 z1 : Int, w.cell? ⟨b, off + i * 2, none⟩ = some (.int .i64 z0) ∧ w.cell? ⟨b, off + i * 2 + 1, none⟩ = some (.int .i64 z1)) →
    ∃ l : List (Int × Int), l.length = n ∧ ∀ g : Gh, LRel g w (flat l) b off
  | 0, _, _ => ⟨[], rfl, fun _ => trivial⟩
  | n + 1, off, h => by
    obtain ⟨z0, z1, h0, h1⟩ := h 0 (by omega)
    obtain ⟨l, hl, hr⟩ := lrel_pairs n (off + 2) fun i hi => by
      obtain ⟨y0, y1, k0, k1⟩ := h (i + 1) (by omega)
      refine ⟨y0, y1, ?_, ?_⟩
      · rw [show off + 2 + i * 2 = off + (i + 1) * 2 by omega]; exact k0
      · rw [show off + 2 + i * 2 + 1 = off + (i + 1) * 2 + 1 by omega]; exact k1
    exact ⟨(z0, z1) :: l, by simp [hl], fun g => ⟨⟨_, by simpa using h0, rfl⟩, ⟨_, by simpa using h1, rfl⟩, hr g⟩⟩

theorem block_lt {w : World} {b : Nat} {x : TypeId × Nat} (h : w.shape? b = some x) : b < w.heap.size := by
  by_cases hb : b < w.heap.size
  · exact hb
  · have e : w.heap[b]? = none := by simp; omega
    simp [World.shape?, e] at h

theorem add_mk (b off k : Nat) : (⟨b, off, none⟩ : Addr).add k = ⟨b, off + k, none⟩ := by
  unfold Addr.add
  split
  · rename_i h; subst h; rfl
  · rfl

/-- A list of pairs that comes in is nil, or the list of what its cells hold. -/
theorem open_pairs {H : Type} {enc : TypeId × Value → H} {P : Program} {w : World} {base0 : Nat} {ts te : TypeId} {f0 f1 : Field} {v : Value} {d : DataW H} {p : List MemPlace}
    (ht : P.underlying ts = some (.slice te)) (he : P.underlying te = some (.struct #[f0, f1])) (ce : P.cellsOf te = 2) (o0 : f0.offset = 0) (o1 : f1.offset = 1) (c0 : P.cellsOf f0.type = 1) (c1 : P.cellsOf f1.type = 1)
    (i0 : P.underlying f0.type = some (.int .i64)) (i1 : P.underlying f1.type = some (.int .i64))
    (hv : Value.okWide P w .any base0 ts v) (h : DataW.Trod enc P w 0 (fun _ => true) true ts v d p) :
    v = .slice none 0 0 ∨ ∃ (l : List (Int × Int)) (N : Nat), ∀ M, N ≤ M → VRel (ghOf (fun _ => M) w) w (pv l) v := by
  obtain ⟨a, len, cap, rfl⟩ := okWide_slice ht hv
  obtain ⟨fuel, hf⟩ := h
  rcases open_slice_pairs ht he ce o0 o1 c0 c1 hf with ⟨h1, _⟩ | ⟨a', len', cap', m, n, V0, V1, D0, D1, P0, P1, h1, _, hl, _, hm, _, hx⟩
  · left
    simpa [Value.cells] using h1
  · right
    have e1 : a = some a' ∧ len = len' ∧ cap = cap' := by simpa [Value.cells] using h1
    obtain ⟨rfl, rfl, rfl⟩ := e1
    have hh : w.has P .any base0 a' te cap := by
      simp only [Value.okWide, ht, Cell.okWide, Cell.ok] at hv
      exact hv.2.2
    obtain ⟨_, hs, row, cells, hsh, _⟩ := hh
    have hb := block_lt hsh
    obtain ⟨b, off, sp⟩ := a'
    simp only at hs hb
    subst hs
    simp only [if_true] at hm
    subst hm
    have hc : ∀ i, i < len → ∃ z0 z1 : Int, w.cell? ⟨b, off + i * 2, none⟩ = some (.int .i64 z0) ∧ w.cell? ⟨b, off + i * 2 + 1, none⟩ = some (.int .i64 z1) := by
      intro i hi
      obtain ⟨k0, k1, k2, k3⟩ := hx i (by omega)
      obtain ⟨z0, q0, _, _⟩ := DataW.trod_int i0 k2
      obtain ⟨z1, q1, _, _⟩ := DataW.trod_int i1 k3
      simp at q0 q1
      rw [q0] at k0
      rw [q1] at k1
      rw [add_mk] at k0 k1
      exact ⟨z0, z1, k0, k1⟩
    obtain ⟨l, rfl, hr⟩ := lrel_pairs len off hc
    refine ⟨l, off + l.length * 2, fun M hM => ⟨b, off, _, rfl, hl, ?_, hr _, trivial⟩⟩
    rw [flat_len]
    show off + l.length * 2 ≤ if b < w.heap.size then M else 0
    rw [if_pos hb]
    exact hM

/-- A list of pairs that comes in, as a train or none. -/
theorem train_arg {H : Type} {enc : TypeId × Value → H} {P : Program} {w : World} {base0 : Nat} {ts te : TypeId} {f0 f1 : Field} {v : Value} {d : DataW H} {p : List MemPlace}
    (ht : P.underlying ts = some (.slice te)) (he : P.underlying te = some (.struct #[f0, f1])) (ce : P.cellsOf te = 2) (o0 : f0.offset = 0) (o1 : f1.offset = 1) (c0 : P.cellsOf f0.type = 1) (c1 : P.cellsOf f1.type = 1)
    (i0 : P.underlying f0.type = some (.int .i64)) (i1 : P.underlying f1.type = some (.int .i64))
    (hv : Value.okWide P w .any base0 ts v) (h : DataW.Trod enc P w 0 (fun _ => true) true ts v d p) :
    ∃ (x : AV) (k N : Nat), Live noL x ∧ ((∃ y z, Go.Abs.Seat.TV x k y z) ∨ Go.Abs.Seat.TN x k) ∧ ∀ M, N ≤ M → VRel (ghOf (fun _ => M) w) w x v := by
  rcases open_pairs ht he ce o0 o1 c0 c1 i0 i1 hv h with rfl | ⟨l, N, hr⟩
  · exact ⟨.nils, 0, 0, trivial, .inr Go.Abs.Seat.tn_nils, fun _ _ => rfl⟩
  · exact ⟨pv l, l.length, N, Go.Abs.Seat.pv_no l, Go.Abs.Seat.train_or l, hr⟩
end Go.Proofs.YtpjclnoehlflcaaGreatDoor
