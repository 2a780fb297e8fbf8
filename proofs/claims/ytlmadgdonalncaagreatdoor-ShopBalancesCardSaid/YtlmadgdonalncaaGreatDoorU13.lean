/-
  The document's lists of settings.
-/
import Derived.Test.YtlmadgdonalncaaGreatDoorU8
import Derived.Test.YtlmadgdonalncaaGreatDoorU7
/-! The document's lists of settings. -/
namespace Go.Abs.Seat
noncomputable section
open Go Go.Abs Go.Proofs.Tryz
set_option maxRecDepth 100000
set_option maxHeartbeats 40000000
attribute [local irreducible] IntKind.wrap pEq

def WkVs : List AV → List AV → Prop
 | [], [] => True
 |x :: xs, y :: ys => WkV x y ∧ WkVs xs ys
 | _, _ => False
theorem WkVs.refl : ∀ xs, WkVs xs xs
 | [] => trivial
 |x :: xs => ⟨WkV.refl x, WkVs.refl xs⟩
theorem WkVs.app : ∀ {xs ys zs ws : List AV}, WkVs xs ys → WkVs zs ws → WkVs (xs ++ zs) (ys ++ ws)
 | [], [], _, _, _, h => h
 | _ :: _, _ :: _, _, _, h, k => ⟨h.1, WkVs.app h.2 k⟩
theorem WkVs.len : ∀ {xs ys : List AV}, WkVs xs ys → xs.length = ys.length
 | [], [], _ => rfl
 | _ :: _, _ :: _, h => by rw [List.length_cons, List.length_cons, WkVs.len h.2]
theorem WkVs.cells {g : Gh} {w : World} : ∀ {xs ys : List AV} (b off : Nat), WkVs xs ys → LRel g w xs b off → LRel g w ys b off
 | [], [], _, _, _, h => h
 | _ :: _, _ :: _, b, off, k, h => by
  obtain ⟨⟨u, hu, hv⟩, hr⟩ := h
  exact ⟨⟨u, hu, k.1.wk _ _ _ hv⟩, WkVs.cells b (off + 1) k.2 hr⟩
theorem WkVs.live {L : Nat → Prop} : ∀ {xs ys : List AV}, WkVs xs ys → Lives L xs → Lives L ys
 | [], [], _, h => h
 | _ :: _, _ :: _, k, h => ⟨k.1.lv _ h.1, WkVs.live k.2 h.2⟩
theorem WkVs.lst {xs ys : List AV} (h : WkVs xs ys) (n : Nat) (own : Own) : WkV (.lst xs n own) (.lst ys n own) := by
 refine ⟨fun g w u hu => ?_, fun L hl => ⟨h.live hl.1, hl.2⟩⟩
 simp only [VRel] at hu ⊢
 obtain ⟨b, off, cap, h1, h2, h3, h4, h5⟩ := hu
 exact ⟨b, off, cap, h1, h2, by rw [← h.len]; exact h3, h.cells b off h4, h5⟩
theorem _root_.Go.Abs.WkV.trans {a b c : AV} (h : WkV a b) (k : WkV b c) : WkV a c := ⟨fun _ _ _ hu => k.wk _ _ _ (h.wk _ _ _ hu), fun _ hl => k.lv _ (h.lv _ hl)⟩

def lV (l : List (List Int)) : AV := if l = [] then .nils else sl l
theorem lV_no (l : List (List Int)) : Live noL (lV l) := by
 unfold lV
 split
 ·trivial
 ·exact ⟨svs_no l, fun _ h => nomatch h⟩

theorem lsts_len : ∀ (k m a : Nat), (lsts m a k).length ≤ 2 ^ k := by
 intro k
 induction k with
 |zero => intro m a; cases m <;> simp [lsts]
 |succ k ih =>
  intro m a
  cases m with
  |zero => rw [lsts]; exact Nat.one_le_two_pow
  |succ m =>
   rw [lsts, List.length_append, List.length_map, Nat.pow_succ]
   have := ih m (a + 1)
   have := ih (m + 1) (a + 1)
   omega
theorem lsts_zero (a k : Nat) : lsts 0 a k = [[]] := by rw [lsts]
theorem lsts_succ (m a k : Nat) : lsts (m + 1) a (k + 1) = (lsts m (a + 1) k).map (Int.ofNat a :: ·) ++ lsts (m + 1) (a + 1) k := by rw [lsts]
theorem lsts_one (a k : Nat) : lsts 1 a (k + 1) = [Int.ofNat a] :: lsts 1 (a + 1) k := by rw [lsts_succ, lsts_zero]; rfl
theorem lsts_none (m a : Nat) : lsts (m + 1) a 0 = [] := by rw [lsts]

theorem app_sv (M : List (List Int)) (q : List Int) {v : AV} (e : WkV v (sv q)) (c : Nat) : WkV (AV.lst (svs M ++ [v]) (M.length + (0 + 1)) (.ch c)) (.lst (svs (M ++ [q])) (M ++ [q]).length (.ch c)) := by
 rw [svs_app, List.length_append]
 exact WkVs.lst (xs := svs M ++ [v]) (ys := svs M ++ [sv q]) (WkVs.app (zs := [v]) (WkVs.refl _) ⟨e, trivial⟩) _ _
theorem app_sv0 (q : List Int) {v : AV} (e : WkV v (sv q)) (c : Nat) : WkV (AV.lst [v] (0 + 1) (.ch c)) (.lst (svs [q]) [q].length (.ch c)) := WkVs.lst (xs := [v]) (ys := svs [q]) ⟨e, trivial⟩ _ _

theorem lsts_cons {m a k i : Nat} (h : i < (lsts (m + 1) a k).length) : ∃ x r, gs (lsts (m + 1) a k) i = x :: r ∧ r.length = m := by
 have := ((lsts_mem _ _ _ _).1 (gs_mem _ h)).1
 cases e : gs (lsts (m + 1) a k) i with
 |nil => rw [e] at this; cases this
 |cons x r => rw [e] at this; exact ⟨x, r, rfl, by simpa using this⟩
theorem take_map (n : Int) (L : List (List Int)) {i : Nat} (h : i < L.length) : (L.take (i + 1)).map (n :: ·) = (L.take i).map (n :: ·) ++ [n :: gs L i] := by rw [take_gs L h, List.map_append]; rfl

theorem el_ok (n x : Int) (r : List Int) (c : Nat) : WkV (.lst (iv n :: ivs (x :: r)) (0 + 1 + (r.length + 1)) (.ch c)) (sv (n :: x :: r)) := by
 rw [show 0 + 1 + (r.length + 1) = r.length + 1 + 1 by omega]
 exact WkV.own (ivs (n :: x :: r)) _ _
end
end Go.Abs.Seat
