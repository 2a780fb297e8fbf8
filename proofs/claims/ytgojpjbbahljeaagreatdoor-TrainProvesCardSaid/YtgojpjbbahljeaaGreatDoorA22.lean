/-
  Regions whose order is drawn: the order of the text stands for all (on).
-/
import Derived.Test.YtgojpjbbahljeaaGreatDoorA21
/-! Regions whose order is drawn: the order of the text stands for all (on). -/
namespace Go.Abs
open Go
noncomputable section

section
variable {P : Program} {T : Tr TypeInfo} {F : Tr Func} {X : XT} {B : Nat} {ops : Array Oper} {base : Nat}

/-- A result of an operation over another heap, its footprint being as it is. -/
theorem RKOk.frame {s : Nat} {o : Oper} {r : Rec} {tm tm1 : Tr AV} {H H1 H' : AH} (hc : r.isCall = false) (h : RKOk P T F X B ops s o r tm H H') (hg : guardA ops tm1 o = guardA ops tm o) (hp : pOp P T F X (aev tm1) o = pOp P T F X (aev tm) o)
    (hR : ∀ x, x ∈ r.R → H1.o x = H.o x) (hs : r.W ≠ [] → H.o s = .hole → H1.o s = .hole) : H' = H.app r.W ∧ RKOk P T F X B ops s o r tm1 H1 (H1.app r.W) := by
  obtain ⟨k, v, R, W, U, n0⟩ := r
  unfold RKOk at h ⊢
  simp only at h hR hs ⊢
  rw [hg, hp]
  cases k with
  | off =>
    obtain ⟨k1, k2, rfl, rfl⟩ := h
    exact ⟨rfl, k1, k2, rfl, rfl⟩
  | val =>
    obtain ⟨k1, k2, k3, rfl⟩ := h
    exact ⟨rfl, k1, fun hW => hs hW (k2 hW), k3.agree _ _ _ _ _ _ hR, trivial⟩
  | skip =>
    obtain ⟨k1, k2, k3, k4, rfl⟩ := h
    exact ⟨rfl, k1, fun hW => hs hW (k2 hW), k3.agree _ _ _ _ _ _ hR, k4, trivial⟩
  | call f args => simp [Rec.isCall] at hc
  | pure f args =>
    obtain ⟨k1, rfl, k3, k4, rfl⟩ := h
    exact ⟨rfl, k1, rfl, k3.agree _ _ _ _ _ _ hR, k4, rfl⟩

/-- What a call leaves alone. -/
theorem RKOk.keeps {s : Nat} {o : Oper} {r : Rec} {tm : Tr AV} {H H' : AH} (hc : r.isCall = true) (h : RKOk P T F X B ops s o r tm H H') : ∀ x, x < r.n0 → x ∉ r.U → H'.o x = H.o x := by
  obtain ⟨k, v, R, W, U, n0⟩ := r
  unfold RKOk at h
  simp only at h ⊢
  cases k with
  | call f args => exact h.2.2.2.2
  | _ => simp [Rec.isCall] at hc

theorem RKOk.tm {s : Nat} {o : Oper} {r : Rec} {tm tm1 : Tr AV} {H H' : AH} (h : RKOk P T F X B ops s o r tm H H') (hg : guardA ops tm1 o = guardA ops tm o) (hp : pOp P T F X (aev tm1) o = pOp P T F X (aev tm) o) : RKOk P T F X B ops s o r tm1 H H' := by
  unfold RKOk at h ⊢
  rw [hg, hp]
  exact h

theorem SetD.look {tm tm' : Tr AV} {d : Option Tmp} {v : AV} (h : SetD tm d v tm') (j : Nat) : tm'.get j = if d = some j then some v else tm.get j := by
  cases d with
  | none =>
    have h : tm' = tm := h
    rw [h]; simp
  | some t =>
    rw [h.2 j]
    by_cases e : j = t
    · subst e; simp
    · rw [if_neg e, if_neg (by intro h; cases h; exact e rfl)]

theorem SetD.ex {tm : Tr AV} {d : Option Tmp} {v : AV} (h : ∀ t, d = some t → ∃ y, tm.get t = some y) : ∃ tm', SetD tm d v tm' := by
  cases d with
  | none => exact ⟨tm, rfl⟩
  | some t =>
    obtain ⟨y, hy⟩ := h t rfl
    obtain ⟨t', ht⟩ := Tr.set_ex tm t v y hy
    exact ⟨t', ⟨y, hy⟩, ht⟩

/-- Two operations that do not see each other change places. -/
theorem RStep.swap {j i : Nat} {rj ri : Rec} {σ σ1 σ2 : St} (hj : RStep P T F X B ops base j rj σ σ1) (hi : RStep P T F X B ops base i ri σ1 σ2)
    (ha : ∀ oj oi, ops[j]? = some oj → ops[i]? = some oi → oj.apart ops oi = true) (_hne : base + j ≠ base + i) (hind : HInd base j rj i ri) :
    ∃ σ1', RStep P T F X B ops base i ri σ σ1' ∧ RStep P T F X B ops base j rj σ1' σ2 := by
  obtain ⟨a1, a2, a3, oj, hoj, sj, kj⟩ := hj
  obtain ⟨b1, b2, b3, oi, hoi, si, ki⟩ := hi
  obtain ⟨h1, h2, h3⟩ := Oper.apart_spec (ha oj oi hoj hoi)
  have hdi : ∀ t, oi.dst = some t → ∃ y, σ.tm.get t = some y := fun t ht => by
    rw [ht] at si
    obtain ⟨⟨y, hy⟩, _⟩ := si
    rw [sj.look] at hy
    rw [if_neg (fun e => h2 t e ht)] at hy
    exact ⟨y, hy⟩
  obtain ⟨tm', st, st2⟩ : ∃ tm', SetD σ.tm oi.dst ri.v tm' ∧ SetD tm' oj.dst rj.v σ2.tm := by
    cases hd : oj.dst with
    | none =>
      rw [hd] at sj
      have e1 : σ1.tm = σ.tm := sj
      rw [e1] at si
      exact ⟨σ2.tm, si, rfl⟩
    | some t =>
      obtain ⟨tm', st⟩ := SetD.ex (v := ri.v) hdi
      refine ⟨tm', st, ?_, fun k => ?_⟩
      · rw [hd] at sj
        obtain ⟨⟨y, hy⟩, _⟩ := sj
        refine ⟨y, ?_⟩
        rw [st.look, if_neg (fun e => h2 t hd e)]
        exact hy
      · rw [si.look, st.look, sj.look, hd]
        by_cases e : k = t
        · subst e
          rw [if_neg (fun e => h2 k hd e)]
          simp
        · rw [if_neg (show ¬ some t = some k by intro h; cases h; exact e rfl), if_neg e]
  have gi : guardA ops σ.tm oi = guardA ops σ1.tm oi := (guardA_set sj h1).symm
  have pi : pOp P T F X (aev σ.tm) oi = pOp P T F X (aev σ1.tm) oi := (pOp_set sj h1).symm
  have gj : guardA ops tm' oj = guardA ops σ.tm oj := guardA_set st h3
  have pj : pOp P T F X (aev tm') oj = pOp P T F X (aev σ.tm) oj := pOp_set st h3
  unfold HInd at hind
  cases hcj : rj.isCall with
  | true =>
    rw [hcj] at hind
    cases hci : ri.isCall with
    | true => rw [hci] at hind; exact hind.elim
    | false =>
      rw [hci] at hind
      obtain ⟨hW, hR⟩ := hind
      obtain ⟨k1, k2⟩ := ki.frame hci (tm1 := σ.tm) (H1 := σ.H) gi pi (fun x hx => (kj.keeps hcj x (hR x hx).1 (hR x hx).2).symm) (fun h => absurd hW h)
      rw [hW] at k1 k2
      have k1 : σ2.H = σ1.H := k1
      refine ⟨{ σ with tm := tm' }, ⟨rfl, rfl, rfl, oi, hoi, st, k2⟩, ⟨b1.trans a1, b2.trans a2, b3.trans a3, oj, hoj, st2, ?_⟩⟩
      rw [k1]
      exact kj.tm gj pj
  | false =>
    rw [hcj] at hind
    cases hci : ri.isCall with
    | true =>
      rw [hci] at hind
      obtain ⟨hW, hR⟩ := hind
      have k1 := (kj.frame hcj (tm1 := σ.tm) (H1 := σ.H) rfl rfl (fun _ _ => rfl) (fun _ h => h)).1
      rw [hW] at k1
      have k1 : σ1.H = σ.H := k1
      obtain ⟨_, k2⟩ := kj.frame hcj (tm1 := tm') (H1 := σ2.H) gj pj (fun x hx => by rw [ki.keeps hci x (hR x hx).1 (hR x hx).2, k1]) (fun h => absurd hW h)
      rw [hW] at k2
      refine ⟨{ σ with tm := tm', H := σ2.H }, ⟨rfl, rfl, rfl, oi, hoi, st, ?_⟩, ⟨b1.trans a1, b2.trans a2, b3.trans a3, oj, hoj, st2, k2⟩⟩
      rw [k1] at ki
      exact ki.tm gi pi
    | false =>
      rw [hci] at hind
      obtain ⟨q1, q2⟩ := hind
      have kj0 := (kj.frame hcj (tm1 := σ.tm) (H1 := σ.H) rfl rfl (fun _ _ => rfl) (fun _ h => h)).1
      obtain ⟨k1, k2⟩ := ki.frame hci (tm1 := σ.tm) (H1 := σ.H) gi pi (fun x hx => by
        rw [kj0]; exact (AH.app_o _ _ _ fun h => (q1 x h).2.1 hx).symm) (fun _ h => by
        rw [kj0, AH.app_o _ _ _ fun h => (q1 _ h).1 rfl] at h; exact h)
      obtain ⟨k3, k4⟩ := kj.frame hcj (tm1 := tm') (H1 := σ.H.app ri.W) gj pj (fun x hx => AH.app_o _ _ _ fun h => (q2 x h).2 hx)
        (fun _ h => by rw [AH.app_o _ _ _ fun h => (q2 _ h).1 rfl]; exact h)
      refine ⟨{ σ with tm := tm', H := σ.H.app ri.W }, ⟨rfl, rfl, rfl, oi, hoi, st, k2⟩, ⟨b1.trans a1, b2.trans a2, b3.trans a3, oj, hoj, st2, ?_⟩⟩
      have : σ2.H = (σ.H.app ri.W).app rj.W := by rw [k1, kj0, AH.app_comm _ _ _ fun x hx => (q1 x hx).2.2]
      rw [this]
      exact k4

/-! ### Chains of operations -/

def Chain (P : Program) (T : Tr TypeInfo) (F : Tr Func) (X : XT) (B : Nat) (ops : Array Oper) (base : Nat) : List (Nat × Rec) → St → St → Prop
  | [], σ, σ' => σ' = σ
  | (i, r) :: l, σ, σ' => ∃ σ1, RStep P T F X B ops base i r σ σ1 ∧ Chain P T F X B ops base l σ1 σ'

def Ind (ops : Array Oper) (base : Nat) (a b : Nat × Rec) : Prop :=
  (∀ oj oi, ops[a.1]? = some oj → ops[b.1]? = some oi → oj.apart ops oi = true) ∧ HInd base a.1 a.2 b.1 b.2

theorem Chain.front {i : Nat} {r : Rec} {post : List (Nat × Rec)} {σ' : St} : ∀ (pre : List (Nat × Rec)) (σ : St), Chain P T F X B ops base (pre ++ (i, r) :: post) σ σ' → (∀ a, a ∈ pre → a.1 ≠ i ∧ Ind ops base a (i, r)) →
    ∃ σ1, RStep P T F X B ops base i r σ σ1 ∧ Chain P T F X B ops base (pre ++ post) σ1 σ'
  | [], σ, h, _ => h
  | (j, rj) :: pre, σ, h, hi => by
    obtain ⟨σ1, h1, h2⟩ := h
    obtain ⟨σ2, h3, h4⟩ := Chain.front pre σ1 h2 fun a ha => hi a (List.mem_cons_of_mem _ ha)
    obtain ⟨hne, hap, hin⟩ := hi (j, rj) (by simp)
    obtain ⟨σ3, h5, h6⟩ := h1.swap h3 hap (by simp only at hne; omega) hin
    exact ⟨σ3, h5, σ2, h6, h4⟩

/-! ### The order of the edges -/

inductive Anc (ops : Array Oper) : Nat → Nat → Prop
  | edge {i j : Nat} {o : Oper} {e : Edge} : ops[i]? = some o → e ∈ o.after → Region.binds .any e = true → e.on = j → Anc ops i j
  | trans {i j : Nat} {o : Oper} {e : Edge} : ops[i]? = some o → e ∈ o.after → Region.binds .any e = true → Anc ops e.on j → Anc ops i j

def DownC (ops : Array Oper) (listed : Array Bool) : Prop :=
  ∀ i o, listed.getD i false = true → ops[i]? = some o → ∀ e, e ∈ o.after → Region.binds .any e = true → listed.getD e.on false = true

theorem Anc.listed {listed : Array Bool} (hd : DownC ops listed) {i j : Nat} (h : Anc ops i j) : listed.getD i false = true → listed.getD j false = true := by
  induction h with
  | edge h1 h2 h3 h4 => intro hl; subst h4; exact hd _ _ hl h1 _ h2 h3
  | trans h1 h2 h3 _ ih => intro hl; exact ih (hd _ _ hl h1 _ h2 h3)

theorem Anc.ready {listed : Array Bool} (hd : DownC ops listed) {i j : Nat} (h : Anc ops i j) (hr : i ∈ Region.ready .any ops listed) : listed.getD j false = true := by
  obtain ⟨_, o, ho, hall⟩ := mem_ready.1 hr
  cases h with
  | edge h1 h2 h3 h4 =>
    rw [ho] at h1; cases h1
    subst h4; exact hall _ h2 h3
  | trans h1 h2 h3 h4 =>
    rw [ho] at h1; cases h1
    exact h4.listed hd (hall _ h2 h3)

theorem lin_ok (hT : TOK P T) (hF : FOK P F) (hX : XOK P X) (htop : ∀ i o, ops[i]? = some o → ∀ e, e ∈ o.after → Region.binds .any e = true → e.on < i) : ∀ (n : Nat) (recs : List (Nat × Rec)) (t : Nat) (listed : Array Bool) (σ σ' : St),
    recs.length = n → listed.size = ops.size → DownC ops listed → (∀ i, (∃ r, (i, r) ∈ recs) ↔ (i < ops.size ∧ listed.getD i true = false)) →
    recs.Pairwise (fun a b => a.1 < b.1 ∧ (Anc ops b.1 a.1 ∨ Ind ops base a b)) → Chain P T F X B ops base recs σ σ' →
    SemT P B [.inRegion ops (Region.linearise.go .any ops n t listed [])] σ .normal σ' := by
  intro n
  induction n with
  | zero =>
    intro recs t listed σ σ' hn _ _ _ _ hc
    have : recs = [] := List.eq_nil_of_length_eq_zero hn
    subst this
    have hc : σ' = σ := hc
    subst hc
    exact SemT.region_nil
  | succ n ih =>
    intro recs t listed σ σ' hn hsz hd hmem hpw hc
    have hnone : ∀ i, i < ops.size → listed.getD i true = true → listed.getD i false = true := fun i hi h => by
      have : i < listed.size := by omega
      simpa [this] using h
    -- the first one is ready
    have hfirst : Region.ready .any ops listed ≠ [] := by
      cases recs with
      | nil => simp at hn
      | cons p rest =>
        obtain ⟨i0, r0⟩ := p
        have h0 := (hmem i0).1 ⟨r0, by simp⟩
        have : i0 ∈ Region.ready .any ops listed := by
          rw [mem_ready]
          refine ⟨h0.2, ops[i0], Array.getElem?_eq_getElem h0.1, fun e he hb => ?_⟩
          have hlt := htop i0 _ (Array.getElem?_eq_getElem h0.1) e he hb
          apply hnone _ (by omega)
          cases hl : listed.getD e.on true with
          | true => rfl
          | false =>
            obtain ⟨r, hr⟩ := (hmem e.on).2 ⟨by omega, hl⟩
            rcases List.mem_cons.1 hr with h | h
            · cases h; omega
            · have := (List.pairwise_cons.1 hpw).1 _ h
              simp only at this; omega
        intro e
        rw [e] at this
        cases this
    simp only [Region.linearise.go]
    show SemT P B [.inRegion ops (match (Region.ready .any ops listed)[t % (Region.ready .any ops listed).length]? with
      | some i => Region.linearise.go .any ops n (t / (Region.ready .any ops listed).length) (listed.setIfInBounds i true) [i]
      | none => [].reverse)] σ .normal σ'
    cases hi : (Region.ready .any ops listed)[t % (Region.ready .any ops listed).length]? with
    | none =>
      exfalso
      cases hr : Region.ready .any ops listed with
      | nil => exact hfirst hr
      | cons x xs =>
        rw [hr] at hi
        have hlt : t % (x :: xs).length < (x :: xs).length := Nat.mod_lt _ (by simp)
        rw [List.getElem?_eq_getElem hlt] at hi
        cases hi
    | some i =>
      simp only []
      rw [linearise_go_acc, List.reverse_singleton, List.singleton_append]
      have hir := List.mem_of_getElem? hi
      obtain ⟨q1, o, q2, q3⟩ := mem_ready.1 hir
      have hilt : i < ops.size := (Array.getElem?_eq_some_iff.1 q2).1
      obtain ⟨r, hr⟩ := (hmem i).2 ⟨hilt, q1⟩
      obtain ⟨pre, post, hsplit⟩ := List.append_of_mem hr
      subst hsplit
      have hpw' := List.pairwise_append.1 hpw
      have hpre : ∀ a, a ∈ pre → a.1 ≠ i ∧ Ind ops base a (i, r) := fun a ha => by
        have h1 := hpw'.2.2 a ha (i, r) (by simp)
        refine ⟨by have := h1.1; simp only at this; omega, ?_⟩
        rcases h1.2 with h2 | h2
        · have h3 := h2.ready hd hir
          have h4 := ((hmem a.1).1 ⟨a.2, by simp [ha]⟩)
          have : a.1 < listed.size := by omega
          have h5 := h4.2
          simp [this] at h3 h5
          rw [h3] at h5
          cases h5
        · exact h2
      obtain ⟨σ1, hs1, hs2⟩ := Chain.front pre σ hc hpre
      refine SemT.region_cons (hs1.opS hT hF hX) (ih (pre ++ post) _ _ _ _ ?_ ?_ ?_ ?_ ?_ hs2)
      · simp only [List.length_append, List.length_cons] at hn ⊢; omega
      · simpa using hsz
      · intro k ok hk hok e he hb
        by_cases hki : k = i
        · subst hki
          rw [q2] at hok; cases hok
          exact getD_set_true (q3 e he hb)
        · rw [getD_set_ne false (Ne.symm hki)] at hk
          exact getD_set_true (hd k ok hk hok e he hb)
      · intro k
        constructor
        · rintro ⟨rk, hk⟩
          have hk' : (k, rk) ∈ pre ++ (i, r) :: post := by
            rcases List.mem_append.1 hk with h | h
            · exact List.mem_append_left _ h
            · exact List.mem_append_right _ (List.mem_cons_of_mem _ h)
          have h1 := (hmem k).1 ⟨rk, hk'⟩
          have hne : k ≠ i := by
            rcases List.mem_append.1 hk with h | h
            · have := (hpre _ h).1; simpa using this
            · have := (List.pairwise_cons.1 hpw'.2.1).1 _ h
              simp only at this; omega
          exact ⟨h1.1, by rw [getD_set_ne true (Ne.symm hne)]; exact h1.2⟩
        · rintro ⟨h1, h2⟩
          have hne : k ≠ i := by
            intro e
            subst e
            have : k < listed.size := by omega
            simp [this] at h2
          rw [getD_set_ne true (Ne.symm hne)] at h2
          obtain ⟨rk, hk⟩ := (hmem k).2 ⟨h1, h2⟩
          refine ⟨rk, ?_⟩
          rcases List.mem_append.1 hk with h | h
          · exact List.mem_append_left _ h
          · rcases List.mem_cons.1 h with h | h
            · cases h; exact absurd rfl hne
            · exact List.mem_append_right _ h
      · refine List.pairwise_append.2 ⟨hpw'.1, (List.pairwise_cons.1 hpw'.2.1).2, fun a ha b hb => hpw'.2.2 a ha b (List.mem_cons_of_mem _ hb)⟩

end
end
end Go.Abs
