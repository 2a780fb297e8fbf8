/-
  The law TrainChains.
-/
import Derived.Test.YtgojpjbbahljeaaGreatDoorN4
/-! The law TrainChains. -/
namespace Go.Abs.Seat
open Go Go.Abs Go.Proofs.Tryz
set_option maxRecDepth 100000
set_option maxHeartbeats 4000000
attribute [local irreducible] IntKind.wrap pEq pSlice

theorem slice_to {T : Tr TypeInfo} {t e : TypeId} {inf : TypeInfo} {xs ys : List AV} {n : Nat} {k : IntKind} {z : Int} {h : Nat} (hT : tyU T t = some (.slice e)) (hi : T.get e = some inf) (hz : z = Int.ofNat h) (hn : h ≤ n)
    (hy : takeN (h * inf.size) xs = some ys) : pSlice T t (.lst xs n .no) none (some (.int k z)) = .chk (decide (0 * inf.size ≤ xs.length)) (.ret (.lst ys h .no)) := by
  subst hz
  unfold pSlice
  have e1 : bnd (some (.int k (Int.ofNat h))) n n = some h := by
    unfold bnd
    simp only [Int.ofNat_eq_natCast]
    rw [decide_eq_true (show (0 : Int) ≤ (h : Int) by omega), decide_eq_true (show (h : Int) ≤ (n : Int) by omega)]
    rfl
  have e2 : bnd none 0 h = some 0 := rfl
  have e3 : dropN (0 * inf.size) xs = xs := by rw [Nat.zero_mul]; rfl
  simp only [hT, hi, e1, e2, e3, Nat.sub_zero, hy]

theorem takeN_take : ∀ (l : List Nat) (i : Nat), i ≤ l.length → takeN i (ivs (zl l)) = some (ivs (zl (l.take i)))
  | _, 0, _ => by rw [List.take_zero]; rfl
  | [], i + 1, h => absurd h (by simp)
  | x :: l, i + 1, h => by
    have := takeN_take l i (by simpa using h)
    show (match takeN i (ivs (zl l)) with | some r => some (nv x :: r) | none => none) = _
    rw [this]; rfl

/-- What is known of a chain's beginning: its fraction is the best one. -/
theorem begin_ok (n d : Nat) (hn : n ≤ 50000) (hd : 1 ≤ d ∧ d ≤ 50000) (i : Nat) (h2 : 2 ≤ i) (hi : i ≤ (ech (d + 1) n d).length) :
    ∃ p q : Nat, p ≤ 50000 ∧ (1 ≤ q ∧ q ≤ 50000) ∧ Pure prog 28 [.lst (ivs (zl ((ech (d + 1) n d).take i))) i .no] (.tup [fv (Int.ofNat p) (Int.ofNat q), iv 0]) ∧ bestS n d (q - 1) = (p, q) := by
  have hl := ech_len24 n d hd.1 hd.2
  have hr := Nat.mod_lt n hd.1
  have hle := ech_le d n hn hd.2
  have hok := ech_foOk d n hn hd.2
  have hfo := ech_foS d n hd.1
  have hpos := ech_pos (n % d) d hr
  have hlast := ech_last (n % d) d hr
  have hg : 1 ≤ Nat.gcd n d := gcd_pos_r hd.1
  have en : n = Nat.gcd n d * (n / Nat.gcd n d) := (Nat.mul_div_cancel' (Nat.gcd_dvd_left n d)).symm
  have ed : d = Nat.gcd n d * (d / Nat.gcd n d) := (Nat.mul_div_cancel' (Nat.gcd_dvd_right n d)).symm
  rw [ech_step hd.1] at hl hle hok hfo hi ⊢
  generalize ech (n % d + 1) d (n % d) = s at *
  generalize n / d = q0 at *
  generalize Nat.gcd n d = g at *
  obtain ⟨j, rfl⟩ : ∃ j, i = j + 1 := ⟨i - 1, by omega⟩
  have hj : j ≤ s.length := by simpa using hi
  have e1 : (q0 :: s).take (j + 1) = q0 :: s.take j := rfl
  have hpt : ∀ y, y ∈ s.take j → 1 ≤ y := fun y hy => hpos y (List.mem_of_mem_take hy)
  have hpd : ∀ y, y ∈ s.drop j → 1 ≤ y := fun y hy => hpos y (List.mem_of_mem_drop hy)
  have hfk := take_foOk (q0 :: s) (j + 1) hi (by simpa using hpd) hok
  have hlen : ((q0 :: s).take (j + 1)).length = j + 1 := by rw [List.length_take]; omega
  have hcat : q0 :: s.take j ++ s.drop j = q0 :: s := by rw [List.cons_append, List.take_append_drop]
  have hne : s.take j ≠ [] := by
    intro k
    have : (s.take j).length = 0 := by rw [k]; rfl
    rw [List.length_take] at this
    omega
  have hch : chOk (zl ((q0 :: s).take (j + 1))) := by
    refine ⟨fun m hm => ?_, by rw [zl_len, hlen]; omega, by rw [zl_len, hlen]; have := hl.2; omega⟩
    rw [zl_len, hlen] at hm
    have hm2 : m < ((q0 :: s).take (j + 1)).length := by omega
    have hmem : ((q0 :: s).take (j + 1))[m] ∈ (q0 :: s).take (j + 1) := List.getElem_mem hm2
    have hval : gi (zl ((q0 :: s).take (j + 1))) m = Int.ofNat (((q0 :: s).take (j + 1))[m]) := by
      rw [zl_gi _ hm2, List.getD_eq_getElem?_getD, List.getElem?_eq_getElem hm2]
      rfl
    unfold chAt
    rw [hval]
    have b1 := hle _ (List.mem_of_mem_take hmem)
    refine ⟨?_, by show ((_ : Nat) : Int) ≤ 50000; omega⟩
    cases m with
    | zero => rw [if_pos rfl]; show (0 : Int) ≤ ((_ : Nat) : Int); omega
    | succ m =>
      rw [if_neg (by omega)]
      have hm3 : m < (s.take j).length := by rw [List.length_take]; omega
      have e3 : ((q0 :: s).take (j + 1))[m + 1] = (s.take j)[m] := by simp [e1]
      rw [e3]
      have := hpt _ (List.getElem_mem hm3)
      show (1 : Int) ≤ ((_ : Nat) : Int)
      omega
  have pf := fold_ok ((q0 :: s).take (j + 1)) hch hfk
  have hz : (zl ((q0 :: s).take (j + 1))).length = j + 1 := by rw [zl_len, hlen]
  rw [nl, hz] at pf
  have b1 := hfk 0 (by omega)
  rw [List.drop_zero] at b1
  have b2 := foS_den ((q0 :: s).take (j + 1)) 0 fun m _ h => hfk m h
  rw [List.drop_zero] at b2
  have b3 : 1 ≤ (foS ((q0 :: s).take (j + 1))).2 := by
    rw [e1]
    exact foS_pos2 (s.take j) hpt
  refine ⟨_, _, b1, ⟨b3, b2⟩, pf, ?_⟩
  rw [e1]
  have hb := best_conv q0 (s.take j) (s.drop j) hne hpt ⟨hpd, fun hd2 => ?_⟩ hg (n := n) (d := d) (by rw [hcat, hfo]; exact en) (by rw [hcat, hfo]; exact ed)
  · exact hb
  · have h5 := hlast (fun k => by rw [k] at hd2; simp at hd2)
    have key : ∀ (a b : List Nat), b ≠ [] → lastNe (a ++ b) → lastNe b := by
      intro a
      induction a with
      | nil => exact fun b _ h => h
      | cons x a ih =>
        intro b hb h
        cases a with
        | nil =>
          cases b with
          | nil => exact absurd rfl hb
          | cons y b => exact h
        | cons y a => exact ih b hb h
    exact key (s.take j) (s.drop j) hd2 (by rw [List.take_append_drop]; exact h5)

theorem chain_no (n d : Int) (h : ¬ isF n d) : Pure prog 25 [fv n d] (.tup [.nils, iv 2]) := by
  refine pure_sym hE rfl (by repeat' (first | exact trivial | assumption | exact flat_no _ | exact (fun _ h => nomatch h) | apply And.intro)) (by repeat' (first | exact trivial | assumption | exact flat_no _ | exact (fun _ h => nomatch h) | apply And.intro)) fun S q pc hS hq hC hE => ?_
  conv => whnf
  refine sym_pure hC (isFraction_pure _ _) ?_
  conv => whnf
  rw [decide_eq_false h]
  conv => whnf
  exact ⟨_, rfl, Wk.refl _⟩

theorem trainChains_yes (hk : Pure prog 19 [] (.bool true)) (n d : Nat) (hn : n ≤ 50000) (hd : 1 ≤ d ∧ d ≤ 50000) : Pure prog 6 [fv (Int.ofNat n) (Int.ofNat d)] (.bool true) := by
  have p1 := chain_pure n d hn hd
  have p2 := rChain_pure d n hn hd.1 hd.2
  have hb := begin_ok n d hn hd
  have hl := ech_len24 n d hd.1 hd.2
  have hok := ech_foOk d n hn hd.2
  have hfo := ech_foS d n hd.1
  have hle := ech_le d n hn hd.2
  have hr := Nat.mod_lt n hd.1
  have hst := ech_step (n := n) hd.1
  have hpos := ech_pos (n % d) d hr
  have p5 := rReduced_pure n d (by omega) (by omega) hd.1
  have hch : chOk (zl (ech (d + 1) n d)) := by
    refine ⟨fun m hm => ?_, by rw [zl_len]; exact hl⟩
    rw [zl_len] at hm
    have hmem : (ech (d + 1) n d)[m] ∈ ech (d + 1) n d := List.getElem_mem hm
    unfold chAt
    rw [zl_gi _ hm, List.getD_eq_getElem?_getD, List.getElem?_eq_getElem hm]
    have b1 := hle _ hmem
    refine ⟨?_, by show ((_ : Nat) : Int) ≤ 50000; exact Int.ofNat_le.2 b1⟩
    cases m with
    | zero => rw [if_pos rfl]; show (0 : Int) ≤ ((_ : Nat) : Int); omega
    | succ m =>
      rw [if_neg (by omega)]
      have e : ∀ (l : List Nat) (q : Nat) (s : List Nat) (h : m + 1 < l.length), l = q :: s → ∃ h2 : m < s.length, l[m + 1] = s[m] := by
        intro l q s h e
        subst e
        exact ⟨by simpa using h, rfl⟩
      obtain ⟨h2, e2⟩ := e _ _ _ hm hst
      have b2 := hpos _ (List.getElem_mem h2)
      show (1 : Int) ≤ (((ech (d + 1) n d)[m + 1] : Nat) : Int)
      rw [e2]
      omega
  have p4 := fold_ok _ hch hok
  rw [hfo] at p4
  generalize ech (d + 1) n d = l at *
  have hz := zl_len l
  have p3 := same_pure (zl l) (zl l) (by omega) (b := true) ⟨fun _ => rfl, fun _ => rfl⟩
  have ln := ivs_no (zl l)
  have hs := takeN_take l
  have pF := dec_t (rFraction_pure _ _) (isF_N hn hd.1 hd.2)
  generalize n / Nat.gcd n d = x at *
  generalize d / Nat.gcd n d = y at *
  refine pure_sym hE rfl (by repeat' (first | exact trivial | assumption | exact flat_no _ | exact (fun _ h => nomatch h) | apply And.intro)) (by repeat' (first | exact trivial | assumption | exact flat_no _ | exact (fun _ h => nomatch h) | apply And.intro)) fun S q pc hS hq hC hE => ?_
  conv => whnf
  repeat ((first
    | refine sym_pure hC (p1) ?_
    | refine sym_pure hC (pF) ?_
    | refine sym_pure hC (p2) ?_
    | refine sym_pure hC (p3) ?_
    | refine sym_pure hC (p4) ?_
    | refine sym_drawn hS (by kernel_rfl) ?_
    | refine sym_eq hq true (eqBool_same _ _) ?_
    | rw [beq_self_eq_true]
    | rw [bne_self_eq_false]); conv => whnf)
  refine sym_pure hC (p5) ?_
  conv => whnf
  refine sym_eq hq true (eqFr_same _ _ _) ?_
  conv => whnf
  refine sym_drawn hS (by kernel_rfl) ?_
  conv => whnf
  refine sym_loop hE hS (A := Nat) [1, 3] (fun i => [(7, nv i)]) (fun _ => []) (fun i => 2 ≤ i ∧ i ≤ l.length + 2) (fun i => l.length + 2 - i) 2 rfl rfl ⟨rfl, rfl, rfl, rfl, by repeat' (first | exact trivial | exact rfl | exact Nat.zero_le _ | exact Nat.le_of_ble_eq_true rfl | exact bdl_no (by assumption) | exact bdl_no (flat_no _) | exact bdl_no (ivs_no _) | exact Nat.max_le.2 ⟨Nat.le_of_ble_eq_true rfl, bdl_no (ivs_no _)⟩ | apply And.intro), by repeat' (first | exact trivial | exact rfl | exact Nat.zero_le _ | exact Nat.le_of_ble_eq_true rfl | exact bdl_no (by assumption) | exact bdl_no (flat_no _) | exact bdl_no (ivs_no _) | exact Nat.max_le.2 ⟨Nat.le_of_ble_eq_true rfl, bdl_no (ivs_no _)⟩ | apply And.intro)⟩ ⟨Nat.le_refl 2, by omega⟩ ?_
  intro i ⟨h2, hi⟩
  conv => whnf
  by_cases h : i ≤ l.length
  · rw [show decide (Int.ofNat i ≤ ((zl l).length : Int)) = true from decide_eq_true (by show (i : Int) ≤ _; omega)]
    conv => whnf
    refine plan_as (slice_to (e := 3) (inf := t3) (h := i) (ys := ivs (zl (l.take i))) (by kernel_rfl) (by kernel_rfl) rfl (by omega) (by rw [show t3.size = 1 from rfl, Nat.mul_one]; exact hs i h)) ?_
    conv => whnf
    first
      | (refine bool_true (decide_eq_true (by rw [Nat.zero_mul]; exact Nat.zero_le _)) ?_; conv => whnf)
      | skip
    obtain ⟨p, r, b1, b2, pf, eb⟩ := hb i h2 h
    have pb := best_pure n d r hn hd.1 hd.2 b2.1 b2.2
    rw [eb] at pb
    have pG := dec_t (rFraction_pure _ _) (isF_N b1 b2.1 b2.2)
    repeat ((first
      | refine sym_pure hC (pf) ?_
      | refine sym_pure hC (pG) ?_
      | refine sym_pure hC (pb) ?_
      | refine sym_drawn hS (by kernel_rfl) ?_
      | refine sym_eq hq true (eqBool_same _ _) ?_
      | rw [beq_self_eq_true]
      | rw [bne_self_eq_false]); conv => whnf)
    refine sym_eq hq true (eqFr_same _ _ _) ?_
    conv => whnf
    rw [show IntKind.i64.wrap (Int.ofNat i + 1) = Int.ofNat (i + 1) from wrapN (m := i + 1) (by omega)]
    exact ⟨i + 1, ⟨by omega, by omega⟩, by omega, ⟨rfl, rfl, rfl, rfl, by repeat' (first | exact trivial | exact rfl | exact Nat.zero_le _ | exact Nat.le_of_ble_eq_true rfl | exact bdl_no (by assumption) | exact bdl_no (flat_no _) | exact bdl_no (ivs_no _) | exact Nat.max_le.2 ⟨Nat.le_of_ble_eq_true rfl, bdl_no (ivs_no _)⟩ | apply And.intro), by repeat' (first | exact trivial | exact rfl | exact Nat.zero_le _ | exact Nat.le_of_ble_eq_true rfl | exact bdl_no (by assumption) | exact bdl_no (flat_no _) | exact bdl_no (ivs_no _) | exact Nat.max_le.2 ⟨Nat.le_of_ble_eq_true rfl, bdl_no (ivs_no _)⟩ | apply And.intro)⟩⟩
  · rw [show decide (Int.ofNat i ≤ ((zl l).length : Int)) = false from decide_eq_false (by show ¬ (i : Int) ≤ _; omega)]
    conv => whnf
    repeat ((first
      | refine sym_pure hC (hk) ?_
      | refine sym_drawn hS (by kernel_rfl) ?_
      | refine sym_eq hq true (eqBool_same _ _) ?_
      | rw [beq_self_eq_true]
      | rw [bne_self_eq_false]); conv => whnf)
    exact ⟨_, rfl, Wk.refl _⟩

/-- TrainChains, of whatever fraction. -/
theorem trainChains (hk : Pure prog 19 [] (.bool true)) (n d : Int) : Pure prog 6 [fv n d] (.bool true) := by
  by_cases h : isF n d
  · obtain ⟨n, d, rfl, rfl, q1, q2, q3⟩ := isF_nat h
    exact trainChains_yes hk n d q1 ⟨q2, q3⟩
  · have p1 := chain_no n d h
    have pF := dec_f (rFraction_pure _ _) h
    refine pure_sym hE rfl (by repeat' (first | exact trivial | assumption | exact flat_no _ | exact (fun _ h => nomatch h) | apply And.intro)) (by repeat' (first | exact trivial | assumption | exact flat_no _ | exact (fun _ h => nomatch h) | apply And.intro)) fun S q pc hS hq hC hE => ?_
    conv => whnf
    repeat ((first
      | refine sym_pure hC (p1) ?_
      | refine sym_pure hC (pF) ?_
      | refine sym_pure hC (hk) ?_
      | refine sym_drawn hS (by kernel_rfl) ?_
      | refine sym_eq hq true (eqBool_same _ _) ?_
      | rw [beq_self_eq_true]
      | rw [bne_self_eq_false]); conv => whnf)
    exact ⟨_, rfl, Wk.refl _⟩
end Go.Abs.Seat
