/-
  The document's nearest train.
-/
import Derived.Test.YtpjclnoehlflcaaGreatDoorU12
import Derived.Test.YtpjclnoehlflcaaGreatDoorU7
import Derived.Test.YtpjclnoehlflcaaGreatDoorU9
/-! The document's nearest train. -/
namespace Go.Abs.Seat
noncomputable section
open Go Go.Abs Go.Proofs.Tryz
set_option maxRecDepth 100000
set_option maxHeartbeats 40000000
attribute [local irreducible] IntKind.wrap pEq

def oW : Option (List (Nat × Nat)) → AV
 |none => .nils
 |some t => pv (zp t)
abbrev mny (p : Nat) (s : Int) (k : Nat) : Prop := manyP (Int.ofNat p) s k

theorem gd_ft {x : Nat} {c : Bool} (h : c = true) : @Bool.rec (fun _ => Bool) (@Bool.rec (fun _ => Bool) true false (x, false).snd) (x, false).snd c = false := by subst h; rfl
theorem gd_ff {x : Nat} {c : Bool} (h : c = false) : @Bool.rec (fun _ => Bool) (@Bool.rec (fun _ => Bool) true false (x, false).snd) (x, false).snd c = true := by subst h; rfl
theorem gq_mem (l : List (Nat × Nat)) {i : Nat} (h : i < l.length) : gq l i ∈ l := by
 have := drop_gq l h
 exact List.mem_of_mem_drop (this ▸ List.mem_cons_self)
theorem take_gq (l : List (Nat × Nat)) {i : Nat} (h : i < l.length) : l.take (i + 1) = l.take i ++ [gq l i] := by
 rw [List.take_succ_eq_append_getElem h]
 have h2 := drop_gq l h
 rw [List.drop_eq_getElem_cons h] at h2
 rw [(List.cons.inj h2).1]
theorem nth_zp1 : ∀ (l : List (Nat × Nat)) (i : Nat), i < l.length → nth (flat (zp l)) (i * 2 + 1) = some (nv (gq l i).2)
 | [], _, h => absurd h (Nat.not_lt_zero _)
 | _ :: _, 0, _ => rfl
 | _ :: r, i + 1, h => by
  rw [show (i + 1) * 2 + 1 = i * 2 + 1 + 1 + 1 by omega]
  exact nth_zp1 r i (by simpa using h)
theorem rnF_ne {L : List Nat} {n d : Nat} (h : L ≠ []) : rnF L n d ≠ [] := by
 cases L with
 |nil => exact absurd rfl h
 |cons x r =>
  unfold rnF
  rw [List.flatMap_cons]
  intro k
  have h2 := (List.append_eq_nil_iff.1 k).1
  unfold rcOf at h2
  cases (List.append_eq_nil_iff.1 h2).2
def OwI (tq : Nat → Prop) (k n d : Nat) (f q : Nat × Nat) (L : List (Nat × Nat)) : Option (List (Nat × Nat)) → Prop
 |none => ∀ z t, z ∈ L → (dQ n d z).1 * q.2 = (dQ n d q).1 * z.2 → fstT tq k z.1 z.2 f ≠ some t
 |some w => (∃ z, z ∈ L ∧ (dQ n d z).1 * q.2 = (dQ n d q).1 * z.2 ∧ fstT tq k z.1 z.2 f = some w) ∧ ∀ z t, z ∈ L → (dQ n d z).1 * q.2 = (dQ n d q).1 * z.2 → fstT tq k z.1 z.2 f = some t → ¬ ltL t w
theorem OwI.zero {L : List (Nat × Nat)} {tq : Nat → Prop} {k n d : Nat} {f q : Nat × Nat} : OwI tq k n d f q (List.take 0 L) none := fun _ _ h => by cases h
theorem OwI.skip {tq : Nat → Prop} {k n d : Nat} {f q z : Nat × Nat} {L : List (Nat × Nat)} {w : Option (List (Nat × Nat))} (h : OwI tq k n d f q L w) (hz : ∀ t, (dQ n d z).1 * q.2 = (dQ n d q).1 * z.2 → fstT tq k z.1 z.2 f ≠ some t) : OwI tq k n d f q (L ++ [z]) w := by
 cases w with
 |none =>
  intro y t hy he
  rcases List.mem_append.1 hy with hy | hy
  ·exact h y t hy he
  ·rw [List.mem_singleton.1 hy] at he ⊢; exact hz t he
 |some w =>
  obtain ⟨⟨y, hy, he, hf⟩, hm⟩ := h
  refine ⟨⟨y, List.mem_append_left _ hy, he, hf⟩, fun y t hy he hf => ?_⟩
  rcases List.mem_append.1 hy with hy | hy
  ·exact hm y t hy he hf
  ·rw [List.mem_singleton.1 hy] at he hf; exact absurd hf (hz t he)
theorem OwI.new {tq : Nat → Prop} {k n d : Nat} {f q z : Nat × Nat} {L : List (Nat × Nat)} {t : List (Nat × Nat)} (h : OwI tq k n d f q L none) (he : (dQ n d z).1 * q.2 = (dQ n d q).1 * z.2) (hf : fstT tq k z.1 z.2 f = some t) : OwI tq k n d f q (L ++ [z]) (some t) := by
 refine ⟨⟨z, List.mem_append_right _ (List.mem_singleton.2 rfl), he, hf⟩, fun y u hy he2 hf2 => ?_⟩
 rcases List.mem_append.1 hy with hy | hy
 ·exact absurd hf2 (h y u hy he2)
 ·rw [List.mem_singleton.1 hy, hf] at hf2
  cases hf2
  exact ltL_irr _
theorem OwI.lt {tq : Nat → Prop} {k n d : Nat} {f q z : Nat × Nat} {L : List (Nat × Nat)} {t w : List (Nat × Nat)} (h : OwI tq k n d f q L (some w)) (he : (dQ n d z).1 * q.2 = (dQ n d q).1 * z.2) (hf : fstT tq k z.1 z.2 f = some t) (hl : ltL t w) : OwI tq k n d f q (L ++ [z]) (some t) := by
 refine ⟨⟨z, List.mem_append_right _ (List.mem_singleton.2 rfl), he, hf⟩, fun y u hy he2 hf2 => ?_⟩
 rcases List.mem_append.1 hy with hy | hy
 ·exact fun e => h.2 y u hy he2 hf2 (ltL_trans e hl)
 ·rw [List.mem_singleton.1 hy, hf] at hf2
  cases hf2
  exact ltL_irr _
theorem OwI.ge {tq : Nat → Prop} {k n d : Nat} {f q z : Nat × Nat} {L : List (Nat × Nat)} {t w : List (Nat × Nat)} (h : OwI tq k n d f q L (some w)) (hf : fstT tq k z.1 z.2 f = some t) (hl : ¬ ltL t w) : OwI tq k n d f q (L ++ [z]) (some w) := by
 obtain ⟨⟨y, hy, he, hf'⟩, hm⟩ := h
 refine ⟨⟨y, List.mem_append_left _ hy, he, hf'⟩, fun y u hy he2 hf2 => ?_⟩
 rcases List.mem_append.1 hy with hy | hy
 ·exact hm y u hy he2 hf2
 ·rw [List.mem_singleton.1 hy, hf] at hf2
  cases hf2
  exact hl
theorem OwI.opt {tq : Nat → Prop} (h1 : ∀ n, tq n → 1 ≤ n ∧ n ≤ 60) {a : Nat} (ha : ∀ n, tq n → a ≤ n) {k M n d : Nat} (hd : 1 ≤ d) (hM : 60 ^ k < M) {q : Nat × Nat} {R L : List (Nat × Nat)} (hL : L = R) (hR : R = rnF (lstP (prodP tq k) M) n d) (hqR : q ∈ R) (hqm : ∀ z, z ∈ R → fle (dQ n d q) (dQ n d z)) {w : List (Nat × Nat)} (h : OwI tq k n d (a, a) q L (some w)) : Opt tq n d k w := by
 subst hL
 subst hR
 obtain ⟨⟨y, hy, he, hf⟩, hb⟩ := h
 exact ref_opt h1 ha hd hM hqR hqm hy he hf hb
theorem OwI.no {tq : Nat → Prop} (h1 : ∀ n, tq n → 1 ≤ n ∧ n ≤ 60) {a : Nat} (ha : ∀ n, tq n → a ≤ n) {k M n d : Nat} (hd : 1 ≤ d) (hM : 60 ^ k < M) {q : Nat × Nat} {R L : List (Nat × Nat)} (hL : L = R) (hR : R = rnF (lstP (prodP tq k) M) n d) (hqR : q ∈ R) (h : OwI tq k n d (a, a) q L none) : False := by
 subst hL
 subst hR
 obtain ⟨t, ht⟩ := ref_none2 h1 ha hd hM hqR
 exact h q t hqR rfl ht
theorem ordZ_lt {a b : Nat} (h : a < b) : decide (ordI (Int.ofNat a) (Int.ofNat b) < 0) = true := decide_eq_true (ordN_lt.2 h)
theorem ordZ_ge {a b : Nat} (h : ¬ a < b) : decide (ordI (Int.ofNat a) (Int.ofNat b) < 0) = false := decide_eq_false fun e => h (ordN_lt.1 e)
theorem BO.all {tq : Nat → Prop} {P : Nat} {lets : Nat → Prop} {n d : Nat} {t : List (Nat × Nat)} (h : BO tq P lets n d (some t)) : AllT tq t := (show RT tq P lets t from h.1).2.2.all
theorem BO.len3 {tq : Nat → Prop} {P p : Nat} (hp : p ≤ 3) (hP : P ≤ p) {lets : Nat → Prop} {n d : Nat} {t : List (Nat × Nat)} (h : BO tq P lets n d (some t)) : 1 ≤ t.length ∧ t.length ≤ 3 := by
 have := (show RT tq P lets t from h.1).1
 omega
theorem OwI.len {tq : Nat → Prop} {k n d : Nat} {f q : Nat × Nat} {L : List (Nat × Nat)} {w : List (Nat × Nat)} (h : OwI tq k n d f q L (some w)) : w.length = k := by
 obtain ⟨⟨_, _, _, hf⟩, _⟩ := h
 exact Vt_len (fstT_of_some hf).1
theorem fst_len {tq : Nat → Prop} {k X Y : Nat} {f : Nat × Nat} {t : List (Nat × Nat)} (h : fstT tq k X Y f = some t) : t.length = k := Vt_len (fstT_of_some h).1
theorem nth_zp0 : ∀ (l : List (Nat × Nat)) (i : Nat), i < l.length → nth (flat (zp l)) (i * 2) = some (nv (gq l i).1)
 | [], _, h => absurd h (Nat.not_lt_zero _)
 | _ :: _, 0, _ => rfl
 | _ :: r, i + 1, h => by
  rw [show (i + 1) * 2 = i * 2 + 1 + 1 by omega]
  exact nth_zp0 r i (by simpa using h)
theorem fV_oW {tq : Nat → Prop} {P : Nat} {lets : Nat → Prop} {n d : Nat} {o : Option (List (Nat × Nat))} (h : BO tq P lets n d o) : Wk (.tup [oW o, .bool o.isSome]) (fV o) := by
 cases o with
 |none => exact Wk.refl _
 |some t =>
  have : t ≠ [] := fun e => by
   have h2 : RT tq P lets t := h.1
   have := h2.1.1
   rw [e] at this
   exact absurd this (by decide)
  show Wk _ (.tup [trA t, .bool true])
  rw [trA_ne this]
  exact Wk.refl _

theorem rNearest_pure {N : AV} {l : List Int} (h : IL N l) (hl : l.length < 4611686018427387904) (a b : Nat) (ha4 : 4 ≤ a) (hab : a ≤ b) (hb : b ≤ 60) (p : Nat) (hp : 1 ≤ p ∧ p ≤ 3) (s : Int) (hs : 1 ≤ s ∧ s ≤ 3) (n d : Nat) (hn : n ≤ 50000) (hd : 1 ≤ d ∧ d ≤ 50000) :
    Pure prog 35 [rv (Int.ofNat a) (Int.ofNat b) (Int.ofNat p) s N, fv (Int.ofNat n) (Int.ofNat d)] (fV (nrT (tp a b l) p (mny p s) n d)) := by
  have ha : 1 ≤ a := Nat.le_trans (Nat.le_of_ble_eq_true rfl) ha4
  have lN := h.no
  have lF := fV_no (nrT (tp a b l) p (mny p s) n d)
  have pm : ∀ k : Nat, Pure prog 92 [rv (Int.ofNat a) (Int.ofNat b) (Int.ofNat p) s N, nv k] (.bool (decide (mny p s k))) := fun k => many_pure h _ _ _ _ hs k
  have h60 : ∀ x, tp a b l x → 1 ≤ x ∧ x ≤ 60 := fun x hx => tp_le ha hb hx
  have hpos1 : ∀ x, tp a b l x → 1 ≤ x := fun x hx => (h60 x hx).1
  have h460 : ∀ x, tp a b l x → 4 ≤ x ∧ x ≤ 60 := fun x hx => ⟨Nat.le_trans ha4 (tp_ge hx).1, (h60 x hx).2⟩
  have hL1 : ∀ k x, x ∈ lstP (prodP (tp a b l) k) 216001 → 1 ≤ x ∧ x ≤ 216000 := fun k x hx => by
    have h1 := (lstP_mem _ _ _).1 hx
    exact ⟨(prod_le h60 k x h1.2).1, by omega⟩
  have pp0 : ∀ k : Nat, k ≤ 3 → lstP (prodP (tp a b l) k) 216001 = [] → Pure prog 96 [rv (Int.ofNat a) (Int.ofNat b) (Int.ofNat p) s N, nv k] .nils := fun k hk e => by
    have := rProducts_pure h hl a b ha hab hb (Int.ofNat p) s k hk
    rw [e] at this; exact this
  have pp1 : ∀ k : Nat, k ≤ 3 → lstP (prodP (tp a b l) k) 216001 ≠ [] → Pure prog 96 [rv (Int.ofNat a) (Int.ofNat b) (Int.ofNat p) s N, nv k] (nl (zl (lstP (prodP (tp a b l) k) 216001))) := fun k hk e => by
    have := rProducts_pure h hl a b ha hab hb (Int.ofNat p) s k hk
    rcases sv_cases (zl (lstP (prodP (tp a b l) k) 216001)) with ⟨z, _⟩ | z
    · exact absurd (List.map_eq_nil_iff.1 z) e
    · rwa [z] at this
  have pn1 : ∀ k : Nat, lstP (prodP (tp a b l) k) 216001 ≠ [] → Pure prog 95 [nl (zl (lstP (prodP (tp a b l) k) 216001)), fv (Int.ofNat n) (Int.ofNat d)] (pv (zp (rnF (lstP (prodP (tp a b l) k) 216001) n d))) := fun k e => rNear_pure _ e (lstP_srt _ _) (hL1 k) (lstP_len _ _) n d hn hd
  have pF : ∀ k X Y : Nat, k ≤ 3 → X ≤ 216000 → Y ≤ 216000 → ∀ o, fstT (tp a b l) k X Y (a, a) = o → Pure prog 98 [rv (Int.ofNat a) (Int.ofNat b) (Int.ofNat p) s N, nv X, nv Y, nv k, fv (Int.ofNat a) (Int.ofNat a)] (fV o) := fun k X Y hk hX hY o ho => by
    have := rFirst_pure h hl a b ha hab hb (Int.ofNat p) s k hk X Y (a, a) hX hY ha (Nat.le_trans hab hb) (Nat.le_trans hab hb)
    rwa [ho] at this
  have hno : ∀ k : Nat, k ≤ 3 → lstP (prodP (tp a b l) k) 216001 = [] → ∀ t, ¬ Tk (tp a b l) k t := fun k hk e t ht => by
    have h1 := ht.prod.1
    have h2 := (prod_le h60 k _ h1).2
    have h3 : 60 ^ k ≤ 60 ^ 3 := Nat.pow_le_pow_right (by omega) hk
    have h4 := (lstP_mem (prodP (tp a b l) k) (xP t) 216001).2 ⟨by omega, h1⟩
    rw [e] at h4
    cases h4
  rcases h.cs with rfl | rfl
  all_goals
    refine pure_sym hE rfl (by repeat' (first | exact trivial | assumption | exact flat_no _ | exact (fun _ h => nomatch h) | apply And.intro)) (by repeat' (first | exact trivial | assumption | exact flat_no _ | exact (fun _ h => nomatch h) | apply And.intro)) fun S q pc hS hq hC hE => ?_
    conv => whnf
    refine sym_loopG hE hS (A := Nat × Option (List (Nat × Nat))) [2, 3] (fun (k, o) => [(6, oW o), (7, .bool o.isSome), (8, nv (k + 1))]) (fun _ => []) (fun _ => []) (fun (k, o) => k ≤ p ∧ BO (tp a b l) k (mny p s) n d o) (fun (k, _) => p - k) (0, none) (Nat.le_of_ble_eq_true rfl) rfl (by refine ⟨rfl, rfl, rfl, rfl, rfl, rfl, 2, rfl, ?_, ?_⟩ <;> repeat' (first | exact trivial | exact rfl | exact ⟨_, rfl, WkV.refl _⟩ | exact ⟨_, rfl, WkV.own _ _ _⟩ | exact Nat.zero_le _ | exact Nat.le_of_ble_eq_true rfl | exact bdl_no (by assumption) | exact bdl_no (flat_no _) | exact bdl_no (ivs_no _) | exact bdl_no (svs_no _) | exact Nat.max_le.2 ⟨Nat.le_of_ble_eq_true rfl, bdl_no (ivs_no _)⟩ | exact Nat.max_le.2 ⟨Nat.le_of_ble_eq_true rfl, bdl_no (svs_no _)⟩ | apply And.intro)) ⟨Nat.zero_le _, BO.zero _ _ _ _⟩ ?_
    intro (k, o) ⟨hk, hB⟩ M hM
    obtain rfl : M = 2 := hM
    have e8 : IntKind.i64.wrap (Int.ofNat (k + 1) + 1) = Int.ofNat (k + 1 + 1) := wrapN (m := k + 1 + 1) (by omega)
    have lt : ∀ t : List (Nat × Nat), Live noL (pv (zp t)) := fun t => pv_no _
    rcases o with _ | t
    all_goals
     conv => whnf
     by_cases hk2 : k + 1 ≤ p
     · refine bool_true (decide_eq_true (show Int.ofNat (k + 1) ≤ Int.ofNat p by show ((k + 1 : Nat) : Int) ≤ (p : Int); omega)) ?_
       conv => whnf
       refine sym_pure hC (pm (k + 1)) ?_
       conv => whnf
       by_cases hm : mny p s (k + 1)
       · refine bool_false ((show (!decide (mny p s (k + 1))) = false by rw [decide_eq_true hm]; rfl)) ?_
         conv => whnf
         by_cases hL : lstP (prodP (tp a b l) (k + 1)) 216001 = []
         · refine sym_pure hC (pp0 (k + 1) (by omega) hL) ?_
           conv => whnf
           refine sym_pure hC (rNear_nil (Int.ofNat n) (Int.ofNat d)) ?_
           conv => whnf
           refine sym_drawn hS (by kernel_rfl) ?_
           conv => whnf
           refine sym_unroll hE hS ?_
           conv => whnf
           refine sym_unroll hE hS ?_
           conv => whnf
           refine sym_eq hq true rfl ?_
           conv => whnf
           exact ⟨(k + 1, _), ⟨hk2, BO.same hB (fun z => hno (k + 1) (by omega) hL z.2.choose z.2.choose_spec)⟩, by show p - (k + 1) < p - k; omega, Nat.le_refl _, (by refine ⟨rfl, rfl, rfl, rfl, rfl, rfl, 2, rfl, ?_, ?_⟩ <;> repeat' (first | exact trivial | exact rfl | exact ⟨_, rfl, WkV.refl _⟩ | exact ⟨_, rfl, WkV.own _ _ _⟩ | exact Nat.zero_le _ | exact ⟨_, rfl, WkV.int e8⟩ | exact bz (pv_no _) | exact Nat.le_of_ble_eq_true rfl | exact bdl_no (by assumption) | exact bdl_no (flat_no _) | exact bdl_no (ivs_no _) | exact bdl_no (svs_no _) | exact Nat.max_le.2 ⟨Nat.le_of_ble_eq_true rfl, bdl_no (ivs_no _)⟩ | exact Nat.max_le.2 ⟨Nat.le_of_ble_eq_true rfl, bdl_no (svs_no _)⟩ | apply And.intro))⟩
         · refine sym_pure hC (pp1 (k + 1) (by omega) hL) ?_
           conv => whnf
           obtain ⟨R, hR⟩ : ∃ R, R = rnF (lstP (prodP (tp a b l) (k + 1)) 216001) n d := ⟨_, rfl⟩
           have pnR := pn1 (k + 1) hL
           rw [← hR] at pnR
           refine sym_pure hC (pnR) ?_
           conv => whnf
           refine sym_drawn hS (by kernel_rfl) ?_
           conv => whnf
           have lz : (zp R).length = R.length := zp_len R
           have lf := flat_no (zp R)
           have hRl : R.length ≤ 432002 := by
             have h1 := rR_len (lstP (prodP (tp a b l) (k + 1)) 216001) n d (lstP (prodP (tp a b l) (k + 1)) 216001).length
             have h2 := lstP_len (prodP (tp a b l) (k + 1)) 216001
             unfold rR at h1
             rw [List.take_length] at h1
             rw [hR]
             exact Nat.le_trans h1 (by omega)
           have hRb : ∀ z, z ∈ R → (1 ≤ z.1 ∧ z.1 ≤ 216000) ∧ 1 ≤ z.2 ∧ z.2 ≤ 216000 := fun z hz => by
             rw [hR] at hz
             have h1 := (rnF_ok (lstP_srt _ _) (fun x hx => (hL1 (k + 1) x hx).1) hd.1).1 z hz
             exact ⟨hL1 _ _ h1.1, hL1 _ _ h1.2⟩
           refine sym_loopG hE hS (A := Nat × (Nat × Nat)) [2, 3, 6, 7, 8, 9, 10] (fun (i, _) => [(11, nv i)]) (fun (_, q) => [(8, .cells (.node (nv q.1) (.node (nv q.2) .nil .nil) .nil) 2 24)]) (fun _ => []) (fun (i, q) => i ≤ R.length ∧ (i = 0 ∧ q = (0, 0) ∨ 0 < i ∧ q ∈ R.take i ∧ ∀ z, z ∈ R.take i → fle (dQ n d q) (dQ n d z))) (fun (i, _) => R.length - i) (0, (0, 0)) (Nat.le_of_ble_eq_true rfl) rfl (by refine ⟨rfl, rfl, rfl, rfl, rfl, rfl, 9, rfl, ?_, ?_⟩ <;> repeat' (first | exact trivial | exact rfl | exact ⟨_, rfl, WkV.refl _⟩ | exact ⟨_, rfl, WkV.own _ _ _⟩ | exact Nat.zero_le _ | exact bdl_no (flat_no _) | exact bz (pv_no _) | exact Nat.le_of_ble_eq_true rfl | exact bdl_no (by assumption) | exact bdl_no (flat_no _) | exact bdl_no (ivs_no _) | exact bdl_no (svs_no _) | exact Nat.max_le.2 ⟨Nat.le_of_ble_eq_true rfl, bdl_no (ivs_no _)⟩ | exact Nat.max_le.2 ⟨Nat.le_of_ble_eq_true rfl, bdl_no (svs_no _)⟩ | apply And.intro)) ⟨Nat.zero_le _, .inl ⟨rfl, rfl⟩⟩ ?_
           intro (i, q) ⟨hi, hq⟩ M hM
           obtain rfl : M = 9 := hM
           conv => whnf
           by_cases hi2 : i < R.length
           · have c1 : decide (Int.ofNat i < ((zp R).length : Int)) = true := decide_eq_true (by rw [lz]; show (i : Int) < _; omega)
             repeat ((first
               | refine ko_rT c1 ?_
               | refine ko_sF c1 ?_
               | refine plan_as (pick_t c1) ?_
               | refine bool_true c1 ?_
               | refine sym_drawn hS (by kernel_rfl) ?_); conv => whnf)
             have ir : i < (zp R).length := by rw [lz]; exact hi2
             have hzm := gq_mem R hi2
             have hzb := hRb _ hzm
             have hi1 : IntKind.i64.wrap (Int.ofNat i + 1) = Int.ofNat (i + 1) := wrapN (m := i + 1) (by omega)
             have htk : R.take (i + 1) = R.take i ++ [gq R i] := take_gq R hi2
             by_cases h0 : i = 0
             · have c2 : (Int.ofNat i == 0) = true := beq_iff_eq.2 (congrArg Int.ofNat h0)
               have hIn : 0 < i + 1 ∧ gq R i ∈ R.take (i + 1) ∧ ∀ z, z ∈ R.take (i + 1) → fle (dQ n d (gq R i)) (dQ n d z) := ⟨Nat.succ_pos _, by rw [htk]; simp, fun z hz => by
                 rw [htk, show R.take i = [] by rw [h0]; rfl] at hz
                 rw [List.mem_singleton.1 hz]
                 exact fle_rfl _⟩
               repeat ((first
                 | refine ko_rT c2 ?_
                 | refine ko_sF c2 ?_
                 | refine plan_as (pick_t c2) ?_
                 | refine bool_true c2 ?_
                 | refine ko_sT (gd_ft c2) ?_
                 | refine ko_rF (gd_ft c2) ?_
                 | refine plan_as (pick_f (gd_ft c2)) ?_
                 | refine bool_false (gd_ft c2) ?_
                 | refine ko_rT (inR_t ir) ?_
                 | refine ko_sF (inR_t ir) ?_
                 | refine plan_as (pick_t (inR_t ir)) ?_
                 | refine bool_true (inR_t ir) ?_
                 | refine sym_drawn hS (by kernel_rfl) ?_); conv => whnf)
               refine plan_as (takP (tak_zp R hi2)) ?_
               conv => whnf
               exact ⟨(i + 1, gq R i), ⟨hi2, .inr hIn⟩, by show R.length - (i + 1) < R.length - i; omega, Nat.le_refl _, (by refine ⟨rfl, rfl, rfl, rfl, rfl, rfl, 9, rfl, ?_, ?_⟩ <;> repeat' (first | exact trivial | exact rfl | exact ⟨_, rfl, WkV.refl _⟩ | exact ⟨_, rfl, WkV.own _ _ _⟩ | exact Nat.zero_le _ | exact ⟨_, rfl, WkV.int hi1⟩ | exact bdl_no (flat_no _) | exact bz (pv_no _) | exact Nat.le_of_ble_eq_true rfl | exact bdl_no (by assumption) | exact bdl_no (flat_no _) | exact bdl_no (ivs_no _) | exact bdl_no (svs_no _) | exact Nat.max_le.2 ⟨Nat.le_of_ble_eq_true rfl, bdl_no (ivs_no _)⟩ | exact Nat.max_le.2 ⟨Nat.le_of_ble_eq_true rfl, bdl_no (svs_no _)⟩ | apply And.intro))⟩
             · have c2 : (Int.ofNat i == 0) = false := beq_eq_false_iff_ne.2 (fun e => h0 (Int.ofNat.inj e))
               have hq1 := hq.resolve_left (fun e => h0 e.1)
               have hqb := hRb _ (List.mem_of_mem_take hq1.2.1)
               have b1 := far_le (n := n) (d := d) (x := (gq R i).1) (y := (gq R i).2) (w := q.2) hn hd.2 hzb.1.2 hzb.2.2 hqb.2.2
               have b2 := far_le (n := n) (d := d) (x := q.1) (y := q.2) (w := (gq R i).2) hn hd.2 hqb.1.2 hqb.2.2 hzb.2.2
               have pa1 := rAway_pure n d (gq R i).1 (gq R i).2 (by omega) (by omega)
               have pa2 := rAway_pure n d q.1 q.2 (by omega) (by omega)
               have w1 : IntKind.i64.wrap (Int.ofNat (gapN ((gq R i).1 * d) (n * (gq R i).2)) * Int.ofNat q.2) = Int.ofNat (gapN ((gq R i).1 * d) (n * (gq R i).2) * q.2) := mulN (by omega)
               have w2 : IntKind.i64.wrap (Int.ofNat (gapN (q.1 * d) (n * q.2)) * Int.ofNat (gq R i).2) = Int.ofNat (gapN (q.1 * d) (n * q.2) * (gq R i).2) := mulN (by omega)
               repeat ((first
                 | refine ko_sT c2 ?_
                 | refine ko_rF c2 ?_
                 | refine plan_as (pick_f c2) ?_
                 | refine bool_false c2 ?_
                 | refine ko_rT (gd_ff c2) ?_
                 | refine ko_sF (gd_ff c2) ?_
                 | refine plan_as (pick_t (gd_ff c2)) ?_
                 | refine bool_true (gd_ff c2) ?_
                 | refine ko_rT (inR_t ir) ?_
                 | refine ko_sF (inR_t ir) ?_
                 | refine plan_as (pick_t (inR_t ir)) ?_
                 | refine bool_true (inR_t ir) ?_
                 | refine sym_drawn hS (by kernel_rfl) ?_); conv => whnf)
               refine plan_as (takP (tak_zp R hi2)) ?_
               conv => whnf
               repeat ((first
                 | refine ko_sT c2 ?_
                 | refine ko_rF c2 ?_
                 | refine plan_as (pick_f c2) ?_
                 | refine bool_false c2 ?_
                 | refine ko_rT (gd_ff c2) ?_
                 | refine ko_sF (gd_ff c2) ?_
                 | refine plan_as (pick_t (gd_ff c2)) ?_
                 | refine bool_true (gd_ff c2) ?_
                 | refine ko_rT (inR_t ir) ?_
                 | refine ko_sF (inR_t ir) ?_
                 | refine plan_as (pick_t (inR_t ir)) ?_
                 | refine bool_true (inR_t ir) ?_
                 | refine sym_pure hC (pa1) ?_
                 | refine sym_pure hC (pa2) ?_
                 | refine sym_drawn hS (by kernel_rfl) ?_); conv => whnf)
               refine plan_as (nthP (nth_zp1 R i hi2)) ?_
               conv => whnf
               repeat ((first
                 | refine ko_sT c2 ?_
                 | refine ko_rF c2 ?_
                 | refine plan_as (pick_f c2) ?_
                 | refine bool_false c2 ?_
                 | refine ko_rT (gd_ff c2) ?_
                 | refine ko_sF (gd_ff c2) ?_
                 | refine plan_as (pick_t (gd_ff c2)) ?_
                 | refine bool_true (gd_ff c2) ?_
                 | refine ko_rT (inR_t ir) ?_
                 | refine ko_sF (inR_t ir) ?_
                 | refine plan_as (pick_t (inR_t ir)) ?_
                 | refine bool_true (inR_t ir) ?_
                 | refine sym_pure hC (pa1) ?_
                 | refine sym_pure hC (pa2) ?_
                 | refine sym_drawn hS (by kernel_rfl) ?_); conv => whnf)
               by_cases h3 : gapN ((gq R i).1 * d) (n * (gq R i).2) * q.2 < gapN (q.1 * d) (n * q.2) * (gq R i).2
               · have c3 : decide (IntKind.i64.wrap (Int.ofNat (gapN ((gq R i).1 * d) (n * (gq R i).2)) * Int.ofNat q.2) < IntKind.i64.wrap (Int.ofNat (gapN (q.1 * d) (n * q.2)) * Int.ofNat (gq R i).2)) = true := decide_eq_true (by rw [w1, w2]; exact Int.ofNat_lt.2 h3)
                 repeat ((first
                   | refine ko_sT c2 ?_
                   | refine ko_rF c2 ?_
                   | refine plan_as (pick_f c2) ?_
                   | refine bool_false c2 ?_
                   | refine ko_rT c3 ?_
                   | refine ko_sF c3 ?_
                   | refine plan_as (pick_t c3) ?_
                   | refine bool_true c3 ?_
                   | refine ko_rT (inR_t ir) ?_
                   | refine ko_sF (inR_t ir) ?_
                   | refine plan_as (pick_t (inR_t ir)) ?_
                   | refine bool_true (inR_t ir) ?_
                   | refine sym_drawn hS (by kernel_rfl) ?_); conv => whnf)
                 refine plan_as (takP (tak_zp R hi2)) ?_
                 conv => whnf
                 exact ⟨(i + 1, gq R i), ⟨hi2, .inr ⟨Nat.succ_pos _, by rw [htk]; simp, fun z hz => by
                   rw [htk] at hz
                   rcases List.mem_append.1 hz with hz | hz
                   · exact fle_tr (a := dQ n d (gq R i)) (b := dQ n d q) (c := dQ n d z) hqb.2.1 (Nat.le_of_lt h3) (hq1.2.2 z hz)
                   · rw [List.mem_singleton.1 hz]; exact fle_rfl _⟩⟩, by show R.length - (i + 1) < R.length - i; omega, Nat.le_refl _, (by refine ⟨rfl, rfl, rfl, rfl, rfl, rfl, 9, rfl, ?_, ?_⟩ <;> repeat' (first | exact trivial | exact rfl | exact ⟨_, rfl, WkV.refl _⟩ | exact ⟨_, rfl, WkV.own _ _ _⟩ | exact Nat.zero_le _ | exact ⟨_, rfl, WkV.int hi1⟩ | exact bdl_no (flat_no _) | exact bz (pv_no _) | exact Nat.le_of_ble_eq_true rfl | exact bdl_no (by assumption) | exact bdl_no (flat_no _) | exact bdl_no (ivs_no _) | exact bdl_no (svs_no _) | exact Nat.max_le.2 ⟨Nat.le_of_ble_eq_true rfl, bdl_no (ivs_no _)⟩ | exact Nat.max_le.2 ⟨Nat.le_of_ble_eq_true rfl, bdl_no (svs_no _)⟩ | apply And.intro))⟩
               · have c3 : decide (IntKind.i64.wrap (Int.ofNat (gapN ((gq R i).1 * d) (n * (gq R i).2)) * Int.ofNat q.2) < IntKind.i64.wrap (Int.ofNat (gapN (q.1 * d) (n * q.2)) * Int.ofNat (gq R i).2)) = false := decide_eq_false (by rw [w1, w2]; exact fun z => h3 (Int.ofNat_lt.1 z))
                 repeat ((first
                   | refine ko_sT c2 ?_
                   | refine ko_rF c2 ?_
                   | refine plan_as (pick_f c2) ?_
                   | refine bool_false c2 ?_
                   | refine ko_sT c3 ?_
                   | refine ko_rF c3 ?_
                   | refine plan_as (pick_f c3) ?_
                   | refine bool_false c3 ?_
                   | refine ko_rT (inR_t ir) ?_
                   | refine ko_sF (inR_t ir) ?_
                   | refine plan_as (pick_t (inR_t ir)) ?_
                   | refine bool_true (inR_t ir) ?_
                   | refine sym_drawn hS (by kernel_rfl) ?_); conv => whnf)
                 exact ⟨(i + 1, q), ⟨hi2, .inr ⟨Nat.succ_pos _, by rw [htk]; exact List.mem_append_left _ hq1.2.1, fun z hz => by
                   rw [htk] at hz
                   rcases List.mem_append.1 hz with hz | hz
                   · exact hq1.2.2 z hz
                   · rw [List.mem_singleton.1 hz]; exact Nat.le_of_not_lt h3⟩⟩, by show R.length - (i + 1) < R.length - i; omega, Nat.le_refl _, (by refine ⟨rfl, rfl, rfl, rfl, rfl, rfl, 9, rfl, ?_, ?_⟩ <;> repeat' (first | exact trivial | exact rfl | exact ⟨_, rfl, WkV.refl _⟩ | exact ⟨_, rfl, WkV.own _ _ _⟩ | exact Nat.zero_le _ | exact ⟨_, rfl, WkV.int hi1⟩ | exact bdl_no (flat_no _) | exact bz (pv_no _) | exact Nat.le_of_ble_eq_true rfl | exact bdl_no (by assumption) | exact bdl_no (flat_no _) | exact bdl_no (ivs_no _) | exact bdl_no (svs_no _) | exact Nat.max_le.2 ⟨Nat.le_of_ble_eq_true rfl, bdl_no (ivs_no _)⟩ | exact Nat.max_le.2 ⟨Nat.le_of_ble_eq_true rfl, bdl_no (svs_no _)⟩ | apply And.intro))⟩
           · have c1 : decide (Int.ofNat i < ((zp R).length : Int)) = false := decide_eq_false (by rw [lz]; show ¬ (i : Int) < _; omega)
             repeat ((first
               | refine ko_sT c1 ?_
               | refine ko_rF c1 ?_
               | refine plan_as (pick_f c1) ?_
               | refine bool_false c1 ?_
               | refine sym_drawn hS (by kernel_rfl) ?_); conv => whnf)
             refine .inl ?_
             conv => whnf
             have hR0 : R ≠ [] := by
               rw [hR]
               exact rnF_ne hL
             have hi0 : i = R.length := by omega
             have hq1 := hq.resolve_left (fun e => hR0 (List.length_eq_zero_iff.1 (by omega)))
             have hqR : q ∈ R := List.mem_of_mem_take hq1.2.1
             have hqm : ∀ z, z ∈ R → fle (dQ n d q) (dQ n d z) := fun z hz => hq1.2.2 z (by rw [hi0, List.take_length]; exact hz)
             clear hq hq1 hi c1 hi2
             have hM60 : 60 ^ (k + 1) < 216001 := Nat.lt_of_le_of_lt (Nat.pow_le_pow_right (by omega) (show k + 1 ≤ 3 by omega)) (by decide)
             refine sym_loopG hE hS (A := Nat × Option (List (Nat × Nat))) [2, 3, 6, 7, 8, 9, 10] (fun (j, w) => [(12, oW w), (13, nv j)]) (fun _ => []) (fun _ => []) (fun (j, w) => j ≤ R.length ∧ OwI (tp a b l) (k + 1) n d (a, a) q (R.take j) w) (fun (j, _) => R.length - j) (0, none) (Nat.le_of_ble_eq_true rfl) rfl (by refine ⟨rfl, rfl, rfl, rfl, rfl, rfl, 9, rfl, ?_, ?_⟩ <;> repeat' (first | exact trivial | exact rfl | exact ⟨_, rfl, WkV.refl _⟩ | exact ⟨_, rfl, WkV.own _ _ _⟩ | exact Nat.zero_le _ | exact bdl_no (flat_no _) | exact bz (pv_no _) | exact Nat.le_of_ble_eq_true rfl | exact bdl_no (by assumption) | exact bdl_no (flat_no _) | exact bdl_no (ivs_no _) | exact bdl_no (svs_no _) | exact Nat.max_le.2 ⟨Nat.le_of_ble_eq_true rfl, bdl_no (ivs_no _)⟩ | exact Nat.max_le.2 ⟨Nat.le_of_ble_eq_true rfl, bdl_no (svs_no _)⟩ | apply And.intro)) ⟨Nat.zero_le _, OwI.zero⟩ ?_
             intro (j, w) ⟨hj, hw⟩ M hM
             obtain rfl : M = 9 := hM
             have hj1 : j < R.length → IntKind.i64.wrap (Int.ofNat j + 1) = Int.ofNat (j + 1) := fun h => wrapN (m := j + 1) (by omega)
             rcases w with _ | w
             · conv => whnf
               by_cases hj2 : j < R.length
               · have c1 : decide (Int.ofNat j < ((zp R).length : Int)) = true := decide_eq_true (by rw [lz]; show (j : Int) < _; omega)
                 have jr : j < (zp R).length := by rw [lz]; exact hj2
                 have hzb := hRb _ (gq_mem R hj2)
                 have hqb := hRb _ hqR
                 have b1 := far_le (n := n) (d := d) (x := (gq R j).1) (y := (gq R j).2) (w := q.2) hn hd.2 hzb.1.2 hzb.2.2 hqb.2.2
                 have b2 := far_le (n := n) (d := d) (x := q.1) (y := q.2) (w := (gq R j).2) hn hd.2 hqb.1.2 hqb.2.2 hzb.2.2
                 have pa1 := rAway_pure n d (gq R j).1 (gq R j).2 (by omega) (by omega)
                 have pa2 := rAway_pure n d q.1 q.2 (by omega) (by omega)
                 have w1 : IntKind.i64.wrap (Int.ofNat (gapN ((gq R j).1 * d) (n * (gq R j).2)) * Int.ofNat q.2) = Int.ofNat (gapN ((gq R j).1 * d) (n * (gq R j).2) * q.2) := mulN (by omega)
                 have w2 : IntKind.i64.wrap (Int.ofNat (gapN (q.1 * d) (n * q.2)) * Int.ofNat (gq R j).2) = Int.ofNat (gapN (q.1 * d) (n * q.2) * (gq R j).2) := mulN (by omega)
                 have htk : R.take (j + 1) = R.take j ++ [gq R j] := take_gq R hj2
                 repeat ((first
                   | refine ko_rT c1 ?_
                   | refine ko_sF c1 ?_
                   | refine plan_as (pick_t c1) ?_
                   | refine bool_true c1 ?_
                   | refine ko_rT (inR_t jr) ?_
                   | refine ko_sF (inR_t jr) ?_
                   | refine plan_as (pick_t (inR_t jr)) ?_
                   | refine bool_true (inR_t jr) ?_
                   | refine sym_drawn hS (by kernel_rfl) ?_); conv => whnf)
                 refine plan_as (takP (tak_zp R hj2)) ?_
                 conv => whnf
                 repeat ((first
                   | refine ko_rT (inR_t jr) ?_
                   | refine ko_sF (inR_t jr) ?_
                   | refine plan_as (pick_t (inR_t jr)) ?_
                   | refine bool_true (inR_t jr) ?_
                   | refine sym_pure hC (pa1) ?_
                   | refine sym_pure hC (pa2) ?_
                   | refine sym_drawn hS (by kernel_rfl) ?_); conv => whnf)
                 refine plan_as (nthP (nth_zp1 R j hj2)) ?_
                 conv => whnf
                 repeat ((first
                   | refine ko_rT (inR_t jr) ?_
                   | refine ko_sF (inR_t jr) ?_
                   | refine plan_as (pick_t (inR_t jr)) ?_
                   | refine bool_true (inR_t jr) ?_
                   | refine sym_pure hC (pa1) ?_
                   | refine sym_pure hC (pa2) ?_
                   | refine sym_drawn hS (by kernel_rfl) ?_); conv => whnf)
                 by_cases h3 : gapN ((gq R j).1 * d) (n * (gq R j).2) * q.2 = gapN (q.1 * d) (n * q.2) * (gq R j).2
                 · have c3 : (IntKind.i64.wrap (Int.ofNat (gapN ((gq R j).1 * d) (n * (gq R j).2)) * Int.ofNat q.2) != IntKind.i64.wrap (Int.ofNat (gapN (q.1 * d) (n * q.2)) * Int.ofNat (gq R j).2)) = false := by rw [w1, w2, h3]; exact bne_self_eq_false _
                   repeat ((first
                     | refine ko_sT c3 ?_
                     | refine ko_rF c3 ?_
                     | refine plan_as (pick_f c3) ?_
                     | refine bool_false c3 ?_
                     | refine ko_rT (inR_t jr) ?_
                     | refine ko_sF (inR_t jr) ?_
                     | refine plan_as (pick_t (inR_t jr)) ?_
                     | refine bool_true (inR_t jr) ?_
                     | refine sym_drawn hS (by kernel_rfl) ?_); conv => whnf)
                   refine plan_as (nthP (nth_zp0 R j hj2)) ?_
                   conv => whnf
                   repeat ((first
                     | refine ko_sT c3 ?_
                     | refine ko_rF c3 ?_
                     | refine plan_as (pick_f c3) ?_
                     | refine bool_false c3 ?_
                     | refine ko_rT (inR_t jr) ?_
                     | refine ko_sF (inR_t jr) ?_
                     | refine plan_as (pick_t (inR_t jr)) ?_
                     | refine bool_true (inR_t jr) ?_
                     | refine sym_drawn hS (by kernel_rfl) ?_); conv => whnf)
                   refine plan_as (nthP (nth_zp1 R j hj2)) ?_
                   conv => whnf
                   repeat ((first
                     | refine ko_sT c3 ?_
                     | refine ko_rF c3 ?_
                     | refine plan_as (pick_f c3) ?_
                     | refine bool_false c3 ?_
                     | refine ko_rT (inR_t jr) ?_
                     | refine ko_sF (inR_t jr) ?_
                     | refine plan_as (pick_t (inR_t jr)) ?_
                     | refine bool_true (inR_t jr) ?_
                     | refine sym_drawn hS (by kernel_rfl) ?_); conv => whnf)
                   have hj3 := hj1 hj2
                   refine split3 (fstT (tp a b l) (k + 1) (gq R j).1 (gq R j).2 (a, a)) (fun hf => ?_) (fun hf => ?_) (fun q1 r1 hf => ?_)
                   · have pf := pF (k + 1) (gq R j).1 (gq R j).2 (by omega) hzb.1.2 hzb.2.2 _ hf
                     repeat ((first
                       | refine ko_sT c3 ?_
                       | refine ko_rF c3 ?_
                       | refine plan_as (pick_f c3) ?_
                       | refine bool_false c3 ?_
                       | refine sym_pure hC (pf) ?_
                       | refine sym_drawn hS (by kernel_rfl) ?_); conv => whnf)
                     exact ⟨(j + 1, none), ⟨hj2, htk ▸ OwI.skip hw (fun t _ e => by rw [hf] at e; cases e)⟩, by show R.length - (j + 1) < R.length - j; omega, Nat.le_refl _, (by refine ⟨rfl, rfl, rfl, rfl, rfl, rfl, 9, rfl, ?_, ?_⟩ <;> repeat' (first | exact trivial | exact rfl | exact ⟨_, rfl, WkV.refl _⟩ | exact ⟨_, rfl, WkV.own _ _ _⟩ | exact Nat.zero_le _ | exact ⟨_, rfl, WkV.int hj3⟩ | exact bdl_no (flat_no _) | exact bz (pv_no _) | exact Nat.le_of_ble_eq_true rfl | exact bdl_no (by assumption) | exact bdl_no (flat_no _) | exact bdl_no (ivs_no _) | exact bdl_no (svs_no _) | exact Nat.max_le.2 ⟨Nat.le_of_ble_eq_true rfl, bdl_no (ivs_no _)⟩ | exact Nat.max_le.2 ⟨Nat.le_of_ble_eq_true rfl, bdl_no (svs_no _)⟩ | apply And.intro))⟩
                   · exact absurd (fst_len hf) (by show ¬ 0 = k + 1; omega)
                   · have pf := pF (k + 1) (gq R j).1 (gq R j).2 (by omega) hzb.1.2 hzb.2.2 _ hf
                     repeat ((first
                       | refine ko_sT c3 ?_
                       | refine ko_rF c3 ?_
                       | refine plan_as (pick_f c3) ?_
                       | refine bool_false c3 ?_
                       | refine sym_pure hC (pf) ?_
                       | refine sym_drawn hS (by kernel_rfl) ?_); conv => whnf)
                     refine sym_eq hq true rfl ?_
                     conv => whnf
                     exact ⟨(j + 1, some (q1 :: r1)), ⟨hj2, htk ▸ OwI.new hw h3 hf⟩, by show R.length - (j + 1) < R.length - j; omega, Nat.le_refl _, (by refine ⟨rfl, rfl, rfl, rfl, rfl, rfl, 9, rfl, ?_, ?_⟩ <;> repeat' (first | exact trivial | exact rfl | exact ⟨_, rfl, WkV.refl _⟩ | exact ⟨_, rfl, WkV.own _ _ _⟩ | exact Nat.zero_le _ | exact ⟨_, rfl, WkV.int hj3⟩ | exact bdl_no (flat_no _) | exact bz (pv_no _) | exact Nat.le_of_ble_eq_true rfl | exact bdl_no (by assumption) | exact bdl_no (flat_no _) | exact bdl_no (ivs_no _) | exact bdl_no (svs_no _) | exact Nat.max_le.2 ⟨Nat.le_of_ble_eq_true rfl, bdl_no (ivs_no _)⟩ | exact Nat.max_le.2 ⟨Nat.le_of_ble_eq_true rfl, bdl_no (svs_no _)⟩ | apply And.intro))⟩
                 · have c3 : (IntKind.i64.wrap (Int.ofNat (gapN ((gq R j).1 * d) (n * (gq R j).2)) * Int.ofNat q.2) != IntKind.i64.wrap (Int.ofNat (gapN (q.1 * d) (n * q.2)) * Int.ofNat (gq R j).2)) = true := by rw [w1, w2]; exact bne_iff_ne.2 (fun e => h3 (Int.ofNat.inj e))
                   repeat ((first
                     | refine ko_rT c3 ?_
                     | refine ko_sF c3 ?_
                     | refine plan_as (pick_t c3) ?_
                     | refine bool_true c3 ?_
                     | refine sym_drawn hS (by kernel_rfl) ?_); conv => whnf)
                   have hj3 := hj1 hj2
                   exact ⟨(j + 1, none), ⟨hj2, htk ▸ OwI.skip hw (fun t e => absurd e h3)⟩, by show R.length - (j + 1) < R.length - j; omega, Nat.le_refl _, (by refine ⟨rfl, rfl, rfl, rfl, rfl, rfl, 9, rfl, ?_, ?_⟩ <;> repeat' (first | exact trivial | exact rfl | exact ⟨_, rfl, WkV.refl _⟩ | exact ⟨_, rfl, WkV.own _ _ _⟩ | exact Nat.zero_le _ | exact ⟨_, rfl, WkV.int hj3⟩ | exact bdl_no (flat_no _) | exact bz (pv_no _) | exact Nat.le_of_ble_eq_true rfl | exact bdl_no (by assumption) | exact bdl_no (flat_no _) | exact bdl_no (ivs_no _) | exact bdl_no (svs_no _) | exact Nat.max_le.2 ⟨Nat.le_of_ble_eq_true rfl, bdl_no (ivs_no _)⟩ | exact Nat.max_le.2 ⟨Nat.le_of_ble_eq_true rfl, bdl_no (svs_no _)⟩ | apply And.intro))⟩
               · have hRt : R.take j = R := List.take_of_length_le (by omega)
                 exact (OwI.no h60 (fun x hx => (tp_ge hx).1) hd.1 hM60 hRt hR hqR hw).elim
             · conv => whnf
               by_cases hj2 : j < R.length
               · have c1 : decide (Int.ofNat j < ((zp R).length : Int)) = true := decide_eq_true (by rw [lz]; show (j : Int) < _; omega)
                 have jr : j < (zp R).length := by rw [lz]; exact hj2
                 have hzb := hRb _ (gq_mem R hj2)
                 have hqb := hRb _ hqR
                 have b1 := far_le (n := n) (d := d) (x := (gq R j).1) (y := (gq R j).2) (w := q.2) hn hd.2 hzb.1.2 hzb.2.2 hqb.2.2
                 have b2 := far_le (n := n) (d := d) (x := q.1) (y := q.2) (w := (gq R j).2) hn hd.2 hqb.1.2 hqb.2.2 hzb.2.2
                 have pa1 := rAway_pure n d (gq R j).1 (gq R j).2 (by omega) (by omega)
                 have pa2 := rAway_pure n d q.1 q.2 (by omega) (by omega)
                 have w1 : IntKind.i64.wrap (Int.ofNat (gapN ((gq R j).1 * d) (n * (gq R j).2)) * Int.ofNat q.2) = Int.ofNat (gapN ((gq R j).1 * d) (n * (gq R j).2) * q.2) := mulN (by omega)
                 have w2 : IntKind.i64.wrap (Int.ofNat (gapN (q.1 * d) (n * q.2)) * Int.ofNat (gq R j).2) = Int.ofNat (gapN (q.1 * d) (n * q.2) * (gq R j).2) := mulN (by omega)
                 have htk : R.take (j + 1) = R.take j ++ [gq R j] := take_gq R hj2
                 repeat ((first
                   | refine ko_rT c1 ?_
                   | refine ko_sF c1 ?_
                   | refine plan_as (pick_t c1) ?_
                   | refine bool_true c1 ?_
                   | refine ko_rT (inR_t jr) ?_
                   | refine ko_sF (inR_t jr) ?_
                   | refine plan_as (pick_t (inR_t jr)) ?_
                   | refine bool_true (inR_t jr) ?_
                   | refine sym_drawn hS (by kernel_rfl) ?_); conv => whnf)
                 refine plan_as (takP (tak_zp R hj2)) ?_
                 conv => whnf
                 repeat ((first
                   | refine ko_rT (inR_t jr) ?_
                   | refine ko_sF (inR_t jr) ?_
                   | refine plan_as (pick_t (inR_t jr)) ?_
                   | refine bool_true (inR_t jr) ?_
                   | refine sym_pure hC (pa1) ?_
                   | refine sym_pure hC (pa2) ?_
                   | refine sym_drawn hS (by kernel_rfl) ?_); conv => whnf)
                 refine plan_as (nthP (nth_zp1 R j hj2)) ?_
                 conv => whnf
                 repeat ((first
                   | refine ko_rT (inR_t jr) ?_
                   | refine ko_sF (inR_t jr) ?_
                   | refine plan_as (pick_t (inR_t jr)) ?_
                   | refine bool_true (inR_t jr) ?_
                   | refine sym_pure hC (pa1) ?_
                   | refine sym_pure hC (pa2) ?_
                   | refine sym_drawn hS (by kernel_rfl) ?_); conv => whnf)
                 by_cases h3 : gapN ((gq R j).1 * d) (n * (gq R j).2) * q.2 = gapN (q.1 * d) (n * q.2) * (gq R j).2
                 · have c3 : (IntKind.i64.wrap (Int.ofNat (gapN ((gq R j).1 * d) (n * (gq R j).2)) * Int.ofNat q.2) != IntKind.i64.wrap (Int.ofNat (gapN (q.1 * d) (n * q.2)) * Int.ofNat (gq R j).2)) = false := by rw [w1, w2, h3]; exact bne_self_eq_false _
                   repeat ((first
                     | refine ko_sT c3 ?_
                     | refine ko_rF c3 ?_
                     | refine plan_as (pick_f c3) ?_
                     | refine bool_false c3 ?_
                     | refine ko_rT (inR_t jr) ?_
                     | refine ko_sF (inR_t jr) ?_
                     | refine plan_as (pick_t (inR_t jr)) ?_
                     | refine bool_true (inR_t jr) ?_
                     | refine sym_drawn hS (by kernel_rfl) ?_); conv => whnf)
                   refine plan_as (nthP (nth_zp0 R j hj2)) ?_
                   conv => whnf
                   repeat ((first
                     | refine ko_sT c3 ?_
                     | refine ko_rF c3 ?_
                     | refine plan_as (pick_f c3) ?_
                     | refine bool_false c3 ?_
                     | refine ko_rT (inR_t jr) ?_
                     | refine ko_sF (inR_t jr) ?_
                     | refine plan_as (pick_t (inR_t jr)) ?_
                     | refine bool_true (inR_t jr) ?_
                     | refine sym_drawn hS (by kernel_rfl) ?_); conv => whnf)
                   refine plan_as (nthP (nth_zp1 R j hj2)) ?_
                   conv => whnf
                   repeat ((first
                     | refine ko_sT c3 ?_
                     | refine ko_rF c3 ?_
                     | refine plan_as (pick_f c3) ?_
                     | refine bool_false c3 ?_
                     | refine ko_rT (inR_t jr) ?_
                     | refine ko_sF (inR_t jr) ?_
                     | refine plan_as (pick_t (inR_t jr)) ?_
                     | refine bool_true (inR_t jr) ?_
                     | refine sym_drawn hS (by kernel_rfl) ?_); conv => whnf)
                   have hj3 := hj1 hj2
                   refine split3 (fstT (tp a b l) (k + 1) (gq R j).1 (gq R j).2 (a, a)) (fun hf => ?_) (fun hf => ?_) (fun q1 r1 hf => ?_)
                   · have pf := pF (k + 1) (gq R j).1 (gq R j).2 (by omega) hzb.1.2 hzb.2.2 _ hf
                     repeat ((first
                       | refine ko_sT c3 ?_
                       | refine ko_rF c3 ?_
                       | refine plan_as (pick_f c3) ?_
                       | refine bool_false c3 ?_
                       | refine sym_pure hC (pf) ?_
                       | refine sym_drawn hS (by kernel_rfl) ?_); conv => whnf)
                     exact ⟨(j + 1, some w), ⟨hj2, htk ▸ OwI.skip hw (fun t _ e => by rw [hf] at e; cases e)⟩, by show R.length - (j + 1) < R.length - j; omega, Nat.le_refl _, (by refine ⟨rfl, rfl, rfl, rfl, rfl, rfl, 9, rfl, ?_, ?_⟩ <;> repeat' (first | exact trivial | exact rfl | exact ⟨_, rfl, WkV.refl _⟩ | exact ⟨_, rfl, WkV.own _ _ _⟩ | exact Nat.zero_le _ | exact ⟨_, rfl, WkV.int hj3⟩ | exact bdl_no (flat_no _) | exact bz (pv_no _) | exact Nat.le_of_ble_eq_true rfl | exact bdl_no (by assumption) | exact bdl_no (flat_no _) | exact bdl_no (ivs_no _) | exact bdl_no (svs_no _) | exact Nat.max_le.2 ⟨Nat.le_of_ble_eq_true rfl, bdl_no (ivs_no _)⟩ | exact Nat.max_le.2 ⟨Nat.le_of_ble_eq_true rfl, bdl_no (svs_no _)⟩ | apply And.intro))⟩
                   · exact absurd (fst_len hf) (by show ¬ 0 = k + 1; omega)
                   · have pf := pF (k + 1) (gq R j).1 (gq R j).2 (by omega) hzb.1.2 hzb.2.2 _ hf
                     repeat ((first
                       | refine ko_sT c3 ?_
                       | refine ko_rF c3 ?_
                       | refine plan_as (pick_f c3) ?_
                       | refine bool_false c3 ?_
                       | refine sym_pure hC (pf) ?_
                       | refine sym_drawn hS (by kernel_rfl) ?_); conv => whnf)
                     refine sym_eq hq false rfl ?_
                     conv => whnf
                     have hlw : (q1 :: r1).length = w.length := (fst_len hf).trans (OwI.len hw).symm
                     have ps := rSooner_pure (q1 :: r1) w (by rw [fst_len hf]; omega)
                     by_cases h6 : ltL (q1 :: r1) w
                     · rw [(sooB_lt hlw).2 h6] at ps
                       refine sym_pure hC (ps) ?_
                       conv => whnf
                       exact ⟨(j + 1, some (q1 :: r1)), ⟨hj2, htk ▸ OwI.lt hw h3 hf h6⟩, by show R.length - (j + 1) < R.length - j; omega, Nat.le_refl _, (by refine ⟨rfl, rfl, rfl, rfl, rfl, rfl, 9, rfl, ?_, ?_⟩ <;> repeat' (first | exact trivial | exact rfl | exact ⟨_, rfl, WkV.refl _⟩ | exact ⟨_, rfl, WkV.own _ _ _⟩ | exact Nat.zero_le _ | exact ⟨_, rfl, WkV.int hj3⟩ | exact bdl_no (flat_no _) | exact bz (pv_no _) | exact Nat.le_of_ble_eq_true rfl | exact bdl_no (by assumption) | exact bdl_no (flat_no _) | exact bdl_no (ivs_no _) | exact bdl_no (svs_no _) | exact Nat.max_le.2 ⟨Nat.le_of_ble_eq_true rfl, bdl_no (ivs_no _)⟩ | exact Nat.max_le.2 ⟨Nat.le_of_ble_eq_true rfl, bdl_no (svs_no _)⟩ | apply And.intro))⟩
                     · rw [Bool.eq_false_iff.2 (fun e => h6 ((sooB_lt hlw).1 e))] at ps
                       refine sym_pure hC (ps) ?_
                       conv => whnf
                       exact ⟨(j + 1, some w), ⟨hj2, htk ▸ OwI.ge hw hf h6⟩, by show R.length - (j + 1) < R.length - j; omega, Nat.le_refl _, (by refine ⟨rfl, rfl, rfl, rfl, rfl, rfl, 9, rfl, ?_, ?_⟩ <;> repeat' (first | exact trivial | exact rfl | exact ⟨_, rfl, WkV.refl _⟩ | exact ⟨_, rfl, WkV.own _ _ _⟩ | exact Nat.zero_le _ | exact ⟨_, rfl, WkV.int hj3⟩ | exact bdl_no (flat_no _) | exact bz (pv_no _) | exact Nat.le_of_ble_eq_true rfl | exact bdl_no (by assumption) | exact bdl_no (flat_no _) | exact bdl_no (ivs_no _) | exact bdl_no (svs_no _) | exact Nat.max_le.2 ⟨Nat.le_of_ble_eq_true rfl, bdl_no (ivs_no _)⟩ | exact Nat.max_le.2 ⟨Nat.le_of_ble_eq_true rfl, bdl_no (svs_no _)⟩ | apply And.intro))⟩
                 · have c3 : (IntKind.i64.wrap (Int.ofNat (gapN ((gq R j).1 * d) (n * (gq R j).2)) * Int.ofNat q.2) != IntKind.i64.wrap (Int.ofNat (gapN (q.1 * d) (n * q.2)) * Int.ofNat (gq R j).2)) = true := by rw [w1, w2]; exact bne_iff_ne.2 (fun e => h3 (Int.ofNat.inj e))
                   repeat ((first
                     | refine ko_rT c3 ?_
                     | refine ko_sF c3 ?_
                     | refine plan_as (pick_t c3) ?_
                     | refine bool_true c3 ?_
                     | refine sym_drawn hS (by kernel_rfl) ?_); conv => whnf)
                   have hj3 := hj1 hj2
                   exact ⟨(j + 1, some w), ⟨hj2, htk ▸ OwI.skip hw (fun t e => absurd e h3)⟩, by show R.length - (j + 1) < R.length - j; omega, Nat.le_refl _, (by refine ⟨rfl, rfl, rfl, rfl, rfl, rfl, 9, rfl, ?_, ?_⟩ <;> repeat' (first | exact trivial | exact rfl | exact ⟨_, rfl, WkV.refl _⟩ | exact ⟨_, rfl, WkV.own _ _ _⟩ | exact Nat.zero_le _ | exact ⟨_, rfl, WkV.int hj3⟩ | exact bdl_no (flat_no _) | exact bz (pv_no _) | exact Nat.le_of_ble_eq_true rfl | exact bdl_no (by assumption) | exact bdl_no (flat_no _) | exact bdl_no (ivs_no _) | exact bdl_no (svs_no _) | exact Nat.max_le.2 ⟨Nat.le_of_ble_eq_true rfl, bdl_no (ivs_no _)⟩ | exact Nat.max_le.2 ⟨Nat.le_of_ble_eq_true rfl, bdl_no (svs_no _)⟩ | apply And.intro))⟩
               · have hRt : R.take j = R := List.take_of_length_le (by omega)
                 have hop := OwI.opt h60 (fun x hx => (tp_ge hx).1) hd.1 hM60 hRt hR hqR hqm hw
                 have c1 : decide (Int.ofNat j < ((zp R).length : Int)) = false := decide_eq_false (by rw [lz]; show ¬ (j : Int) < _; omega)
                 have tw := tv_zp h460 (t := w) (by rw [hop.1.len]; omega) hop.1.all
                 repeat ((first
                   | refine ko_sT c1 ?_
                   | refine ko_rF c1 ?_
                   | refine plan_as (pick_f c1) ?_
                   | refine bool_false c1 ?_
                   | refine sym_drawn hS (by kernel_rfl) ?_); conv => whnf)
                 refine .inl ?_
                 conv => whnf
                 refine sym_eq hq false rfl ?_
                 conv => whnf
                 first
                   | exact ⟨(k + 1, some w), ⟨hk2, BO.new hpos1 hB hm hop (fun t e => by cases e)⟩, by show p - (k + 1) < p - k; omega, Nat.le_refl _, (by refine ⟨rfl, rfl, rfl, rfl, rfl, rfl, 2, rfl, ?_, ?_⟩ <;> repeat' (first | exact trivial | exact rfl | exact ⟨_, rfl, WkV.refl _⟩ | exact ⟨_, rfl, WkV.own _ _ _⟩ | exact Nat.zero_le _ | exact ⟨_, rfl, WkV.int e8⟩ | exact bz (pv_no _) | exact Nat.le_of_ble_eq_true rfl | exact bdl_no (by assumption) | exact bdl_no (flat_no _) | exact bdl_no (ivs_no _) | exact bdl_no (svs_no _) | exact Nat.max_le.2 ⟨Nat.le_of_ble_eq_true rfl, bdl_no (ivs_no _)⟩ | exact Nat.max_le.2 ⟨Nat.le_of_ble_eq_true rfl, bdl_no (svs_no _)⟩ | apply And.intro))⟩
                   | skip
                     have tt := tv_zp h460 (t := t) (BO.len3 hp.2 hk hB) (BO.all hB)
                     have pn := rNearer_pure tw tt n d hn hd
                     have yw := yP_pos hpos1 hop.1.all
                     have yt := yP_pos hpos1 (BO.all hB)
                     by_cases h5 : farN n d (redF (xP w) (yP w)).1 (redF (xP w) (yP w)).2 (redF (xP t) (yP t)).2 < farN n d (redF (xP t) (yP t)).1 (redF (xP t) (yP t)).2 (redF (xP w) (yP w)).2
                     · refine sym_pure hC (pn) ?_
                       conv => whnf
                       refine bool_true (ordZ_lt h5) ?_
                       conv => whnf
                       exact ⟨(k + 1, some w), ⟨hk2, BO.new hpos1 hB hm hop (fun t' e => by cases e; exact fun e => absurd h5 (Nat.not_lt.2 ((near_fle yt yw).2 e)))⟩, by show p - (k + 1) < p - k; omega, Nat.le_refl _, (by refine ⟨rfl, rfl, rfl, rfl, rfl, rfl, 2, rfl, ?_, ?_⟩ <;> repeat' (first | exact trivial | exact rfl | exact ⟨_, rfl, WkV.refl _⟩ | exact ⟨_, rfl, WkV.own _ _ _⟩ | exact Nat.zero_le _ | exact ⟨_, rfl, WkV.int e8⟩ | exact bz (pv_no _) | exact Nat.le_of_ble_eq_true rfl | exact bdl_no (by assumption) | exact bdl_no (flat_no _) | exact bdl_no (ivs_no _) | exact bdl_no (svs_no _) | exact Nat.max_le.2 ⟨Nat.le_of_ble_eq_true rfl, bdl_no (ivs_no _)⟩ | exact Nat.max_le.2 ⟨Nat.le_of_ble_eq_true rfl, bdl_no (svs_no _)⟩ | apply And.intro))⟩
                     · refine sym_pure hC (pn) ?_
                       conv => whnf
                       refine bool_false (ordZ_ge h5) ?_
                       conv => whnf
                       exact ⟨(k + 1, some t), ⟨hk2, BO.old hpos1 hB hop ((near_fle yt yw).1 (Nat.le_of_not_lt h5))⟩, by show p - (k + 1) < p - k; omega, Nat.le_refl _, (by refine ⟨rfl, rfl, rfl, rfl, rfl, rfl, 2, rfl, ?_, ?_⟩ <;> repeat' (first | exact trivial | exact rfl | exact ⟨_, rfl, WkV.refl _⟩ | exact ⟨_, rfl, WkV.own _ _ _⟩ | exact Nat.zero_le _ | exact ⟨_, rfl, WkV.int e8⟩ | exact bz (pv_no _) | exact Nat.le_of_ble_eq_true rfl | exact bdl_no (by assumption) | exact bdl_no (flat_no _) | exact bdl_no (ivs_no _) | exact bdl_no (svs_no _) | exact Nat.max_le.2 ⟨Nat.le_of_ble_eq_true rfl, bdl_no (ivs_no _)⟩ | exact Nat.max_le.2 ⟨Nat.le_of_ble_eq_true rfl, bdl_no (svs_no _)⟩ | apply And.intro))⟩
       · refine bool_true ((show (!decide (mny p s (k + 1))) = true by rw [decide_eq_false hm]; rfl)) ?_
         conv => whnf
         exact ⟨(k + 1, _), ⟨hk2, BO.same hB (fun z => hm z.1)⟩, by show p - (k + 1) < p - k; omega, Nat.le_refl _, (by refine ⟨rfl, rfl, rfl, rfl, rfl, rfl, 2, rfl, ?_, ?_⟩ <;> repeat' (first | exact trivial | exact rfl | exact ⟨_, rfl, WkV.refl _⟩ | exact ⟨_, rfl, WkV.own _ _ _⟩ | exact Nat.zero_le _ | exact ⟨_, rfl, WkV.int e8⟩ | exact bz (pv_no _) | exact Nat.le_of_ble_eq_true rfl | exact bdl_no (by assumption) | exact bdl_no (flat_no _) | exact bdl_no (ivs_no _) | exact bdl_no (svs_no _) | exact Nat.max_le.2 ⟨Nat.le_of_ble_eq_true rfl, bdl_no (ivs_no _)⟩ | exact Nat.max_le.2 ⟨Nat.le_of_ble_eq_true rfl, bdl_no (svs_no _)⟩ | apply And.intro))⟩
     · refine bool_false (decide_eq_false (show ¬ Int.ofNat (k + 1) ≤ Int.ofNat p by show ¬ ((k + 1 : Nat) : Int) ≤ (p : Int); omega)) ?_
       conv => whnf
       have ek : k = p := by omega
       rw [ek] at hB
       rw [nrT_eq hB]
       refine .inl ?_
       conv => whnf
       exact ⟨_, rfl, fV_oW hB⟩
end
end Go.Abs.Seat
