/-
  Regions whose order is drawn: the check.
-/
import Derived.Test.YtgojpjbbahljeaaGreatDoorA22
/-! Regions whose order is drawn: the check. -/
namespace Go.Abs
open Go
noncomputable section

def edgeM (acc : List Nat) : List Edge → Nat → Nat
  | [], s => s
  | e :: es, s => edgeM acc es (if Region.binds .any e then s ||| 2 ^ e.on ||| acc.getD e.on 0 else s)

def ancs : List Oper → List Nat → List Nat
  | [], acc => acc
  | o :: os, acc => ancs os (acc ++ [edgeM acc o.after.toList 0])

def topGo : List Oper → Nat → Bool
  | [], _ => true
  | o :: os, i => o.after.toList.all (fun e => !Region.binds .any e || decide (e.on < i)) && topGo os (i + 1)

def pairs (A : List Nat) (n : Nat) : List (Nat × Nat) :=
  (List.range n).flatMap fun i => ((List.range i).filter fun j => !((A.getD i 0).testBit j)).map fun j => (j, i)

/-- The pairs of operations that no edge orders; they are apart. -/
def unord (ops : Array Oper) : Option (List (Nat × Nat)) :=
  if topGo ops.toList 0 && (pairs (ancs ops.toList []) ops.size).all (fun p => match ops[p.1]? with
      | some a => match ops[p.2]? with
        | some b => a.apart ops b
        | none => false
      | none => false) then some (pairs (ancs ops.toList []) ops.size) else none

section
variable {ops : Array Oper}

def AncsOk (ops : Array Oper) (acc : List Nat) : Prop := ∀ i m, acc[i]? = some m → ∀ j, m.testBit j = true → Anc ops i j

theorem edgeM_ok {acc : List Nat} {Q : Nat → Prop} : ∀ (es : List Edge) (s : Nat), (∀ j, s.testBit j = true → Q j) → (∀ e, e ∈ es → Region.binds .any e = true → Q e.on ∧ ∀ j, (acc.getD e.on 0).testBit j = true → Q j) →
    ∀ j, (edgeM acc es s).testBit j = true → Q j
  | [], _, hs, _, j, h => hs j h
  | e :: es, s, hs, he, j, h => by
    refine edgeM_ok es _ ?_ (fun e' he' => he e' (List.mem_cons_of_mem _ he')) j h
    intro k hk
    split at hk
    · rename_i hb
      obtain ⟨h1, h2⟩ := he e (by simp) hb
      simp only [Nat.testBit_or, Bool.or_eq_true, Nat.testBit_two_pow, decide_eq_true_eq] at hk
      rcases hk with (hk | hk) | hk
      · exact hs k hk
      · subst hk; exact h1
      · exact h2 k hk
    · exact hs k hk

theorem ancs_ok : ∀ (os : List Oper) (acc : List Nat) (pre : List Oper), ops.toList = pre ++ os → pre.length = acc.length → AncsOk ops acc → AncsOk ops (ancs os acc)
  | [], _, _, _, _, h => h
  | o :: os, acc, pre, hp, hl, h => by
    have ho : ops[acc.length]? = some o := by
      rw [← Array.getElem?_toList, hp, ← hl]
      simp
    refine ancs_ok os _ (pre ++ [o]) (by simp [hp]) (by simp [hl]) ?_
    intro i m hi j hj
    rw [List.getElem?_append] at hi
    split at hi
    · exact h i m hi j hj
    · rename_i hge
      have hi0 : i = acc.length := by
        have : i - acc.length < 1 := by
          rcases Nat.lt_or_ge (i - acc.length) 1 with h | h
          · exact h
          · simp [List.getElem?_eq_none (l := [edgeM acc o.after.toList 0]) (by simpa using h)] at hi
        omega
      subst hi0
      simp only [Nat.sub_self, List.getElem?_cons_zero, Option.some.injEq] at hi
      subst hi
      refine edgeM_ok o.after.toList 0 (fun j h => by simp at h) ?_ j hj
      intro e he hb
      refine ⟨.edge ho (by simpa using he) hb rfl, fun k hk => ?_⟩
      cases hg : acc[e.on]? with
      | none => simp [hg] at hk
      | some m =>
        simp [hg] at hk
        exact .trans ho (by simpa using he) hb (h _ m hg k hk)

theorem topGo_ok : ∀ (os : List Oper) (k : Nat), topGo os k = true → ∀ i o, os[i]? = some o → ∀ e, e ∈ o.after → Region.binds .any e = true → e.on < k + i
  | [], _, _, _, _, h, _, _, _ => by simp at h
  | o :: os, k, h, i, o', hi, e, he, hb => by
    simp only [topGo, Bool.and_eq_true] at h
    cases i with
    | zero =>
      simp only [List.getElem?_cons_zero, Option.some.injEq] at hi
      subst hi
      have := List.all_eq_true.1 h.1 e (by simpa using he)
      simpa [hb] using this
    | succ i =>
      have := topGo_ok os (k + 1) h.2 i o' (by simpa using hi) e he hb
      omega

theorem unord_ok {U : List (Nat × Nat)} (h : unord ops = some U) : (∀ i o, ops[i]? = some o → ∀ e, e ∈ o.after → Region.binds .any e = true → e.on < i) ∧
    ∀ j i, j < i → i < ops.size → Anc ops i j ∨ ((j, i) ∈ U ∧ ∀ oj oi, ops[j]? = some oj → ops[i]? = some oi → oj.apart ops oi = true) := by
  unfold unord at h
  split at h <;> try cases h
  rename_i hc
  simp only [Bool.and_eq_true, List.all_eq_true] at hc
  refine ⟨fun i o ho e he hb => ?_, fun j i hji hi => ?_⟩
  · have := topGo_ok ops.toList 0 hc.1 i o (by simpa using ho) e he hb
    omega
  · by_cases hb : ((ancs ops.toList []).getD i 0).testBit j = true
    · left
      have hok : AncsOk ops (ancs ops.toList []) := ancs_ok ops.toList [] [] rfl rfl fun i m h => by simp at h
      cases hg : (ancs ops.toList [])[i]? with
      | none => simp [hg] at hb
      | some m =>
        simp [hg] at hb
        exact hok i m hg j hb
    · right
      have hm : (j, i) ∈ pairs (ancs ops.toList []) ops.size := by
        simp only [pairs, List.mem_flatMap, List.mem_range, List.mem_map, List.mem_filter]
        exact ⟨i, hi, j, ⟨hji, by simpa using hb⟩, rfl⟩
      refine ⟨hm, fun oj oi hj hi => ?_⟩
      have := hc.2 _ hm
      simpa [hj, hi] using this

def indB (base i : Nat) (ri : Rec) (j : Nat) (rj : Rec) : Bool :=
  match ri.isCall with
  | true => match rj.isCall with
    | true => false
    | false => rj.W.isEmpty && rj.R.all (fun x => Nat.blt x ri.n0 && !(ri.U.contains x))
  | false => match rj.isCall with
    | true => ri.W.isEmpty && ri.R.all (fun x => Nat.blt x rj.n0 && !(rj.U.contains x))
    | false => (idxs ri.W).all (fun x => x != base + j && !(rj.R.contains x) && !((idxs rj.W).contains x)) && (idxs rj.W).all (fun x => x != base + i && !(ri.R.contains x))

theorem indB_ok {base i j : Nat} {ri rj : Rec} (h : indB base i ri j rj = true) : HInd base i ri j rj := by
  unfold indB at h
  unfold HInd
  split at h
  · rename_i h1
    split at h
    · cases h
    · rename_i h2
      rw [h1, h2]
      simp only [Bool.and_eq_true, List.isEmpty_iff, List.all_eq_true, Bool.not_eq_true', List.contains_eq_mem, decide_eq_false_iff_not] at h
      exact ⟨h.1, fun x hx => ⟨by have := (h.2 x hx).1; rwa [Nat.blt_eq] at this, (h.2 x hx).2⟩⟩
  · rename_i h1
    split at h
    · rename_i h2
      rw [h1, h2]
      simp only [Bool.and_eq_true, List.isEmpty_iff, List.all_eq_true, Bool.not_eq_true', List.contains_eq_mem, decide_eq_false_iff_not] at h
      exact ⟨h.1, fun x hx => ⟨by have := (h.2 x hx).1; rwa [Nat.blt_eq] at this, (h.2 x hx).2⟩⟩
    · rename_i h2
      rw [h1, h2]
      simp only [Bool.and_eq_true, List.all_eq_true, bne_iff_ne, Bool.not_eq_true', List.contains_eq_mem, decide_eq_false_iff_not] at h
      exact ⟨fun x hx => ⟨(h.1 x hx).1.1, (h.1 x hx).1.2, (h.1 x hx).2⟩, fun x hx => h.2 x hx⟩

def lab (k : Nat) : List Rec → List (Nat × Rec)
  | [] => []
  | r :: rs => (k, r) :: lab (k + 1) rs

theorem lab_mem : ∀ (rs : List Rec) (k i : Nat) (r : Rec), (i, r) ∈ lab k rs ↔ k ≤ i ∧ rs[i - k]? = some r
  | [], k, i, r => by simp [lab]
  | r0 :: rs, k, i, r => by
    simp only [lab, List.mem_cons, Prod.mk.injEq, lab_mem rs (k + 1) i r]
    constructor
    · rintro (⟨rfl, rfl⟩ | ⟨h1, h2⟩)
      · simp
      · refine ⟨by omega, ?_⟩
        have : i - k = (i - (k + 1)) + 1 := by omega
        rw [this]; simpa using h2
    · rintro ⟨h1, h2⟩
      by_cases e : i = k
      · subst e
        simp at h2
        exact .inl ⟨rfl, h2.symm⟩
      · right
        have : i - k = (i - (k + 1)) + 1 := by omega
        rw [this] at h2
        exact ⟨by omega, by simpa using h2⟩

theorem lab_length : ∀ (rs : List Rec) (k : Nat), (lab k rs).length = rs.length
  | [], _ => rfl
  | _ :: rs, k => by simp [lab, lab_length rs (k + 1)]

theorem lab_pairwise {Q : Nat × Rec → Nat × Rec → Prop} : ∀ (rs : List Rec) (k : Nat), (∀ i j a b, k ≤ i → i < j → rs[i - k]? = some a → rs[j - k]? = some b → Q (i, a) (j, b)) → (lab k rs).Pairwise Q
  | [], _, _ => List.Pairwise.nil
  | r :: rs, k, h => by
    refine List.pairwise_cons.2 ⟨fun p hp => ?_, lab_pairwise rs (k + 1) fun i j a b h1 h2 h3 h4 => ?_⟩
    · obtain ⟨h1, h2⟩ := (lab_mem rs (k + 1) p.1 p.2).1 hp
      refine h k p.1 r p.2 (Nat.le_refl _) (by omega) (by simp) ?_
      have : p.1 - k = (p.1 - (k + 1)) + 1 := by omega
      rw [this]; simpa using h2
    · refine h i j a b (by omega) h2 ?_ ?_
      · have : i - k = (i - (k + 1)) + 1 := by omega
        rw [this]; simpa using h3
      · have : j - k = (j - (k + 1)) + 1 := by omega
        rw [this]; simpa using h4

/-- The dynamic check: the footprints of pairs that no edge orders. -/
def indAll (base : Nat) (rs : List Rec) (U : List (Nat × Nat)) : Bool :=
  U.all fun p => match rs[p.1]? with
    | some a => match rs[p.2]? with
      | some b => indB base p.1 a p.2 b
      | none => false
    | none => false

variable {P : Program} {T : Tr TypeInfo} {F : Tr Func} {X : XT} {B : Nat}

theorem Sem.region_drawn (hT : TOK P T) (hF : FOK P F) (hX : XOK P X) (hmx : P.follows .mixedOrders = true) {id : Nat} {U : List (Nat × Nat)} (hU : unord ops = some U) {rs : List Rec} (hlen : rs.length = ops.size)
    {σ σ' : St} (hind : indAll σ.H.n rs U = true) (hch : Chain P T F X B ops σ.H.n (lab 0 rs) { σ with H := σ.H.room ops.size } σ') : Sem P B (.region id ops true) σ .normal σ' := by
  obtain ⟨htop, hun⟩ := unord_ok hU
  have hmem : ∀ i, (∃ r, (i, r) ∈ lab 0 rs) ↔ (i < ops.size ∧ (Array.replicate ops.size false).getD i true = false) := by
    intro i
    constructor
    · rintro ⟨r, hr⟩
      have h1 := ((lab_mem rs 0 i r).1 hr).2
      have h2 : i < ops.size := by
        have := (List.getElem?_eq_some_iff.1 h1).1
        omega
      exact ⟨h2, by simp [h2]⟩
    · rintro ⟨h1, _⟩
      have h2 : i < rs.length := by omega
      exact ⟨rs[i], (lab_mem rs 0 i _).2 ⟨Nat.zero_le _, by simp [h2]⟩⟩
  have hpw : (lab 0 rs).Pairwise (fun a b => a.1 < b.1 ∧ (Anc ops b.1 a.1 ∨ Ind ops σ.H.n a b)) := by
    refine lab_pairwise rs 0 fun i j a b _ hij ha hb => ⟨hij, ?_⟩
    have hj : j < ops.size := by
      have := (List.getElem?_eq_some_iff.1 hb).1
      omega
    rcases hun i j hij hj with h | ⟨h1, h2⟩
    · exact .inl h
    · refine .inr ⟨h2, indB_ok ?_⟩
      have := List.all_eq_true.1 hind _ h1
      simp only [Nat.sub_zero] at ha hb
      simpa [ha, hb] using this
  have hd : DownC ops (Array.replicate ops.size false) := by
    intro i o h
    exfalso
    rw [Array.getD_eq_getD_getElem?, Array.getElem?_replicate] at h
    split at h <;> simp at h
  intro g fr cs w k hr hm ht hro k' hk
  have hdr : Out g B w σ.H g w.drew (σ.H.room ops.size) :=
    ⟨(Out.drew hr.h).rel.room _, (Out.drew hr.h).ext, (Out.drew hr.h).below, fun _ h => h, (Out.drew hr.h).frame, (Out.drew hr.h).own⟩
  have hr1 := hr.out hdr
  have hmain := fun t => lin_ok hT hF hX htop rs.length (lab 0 rs) t (Array.replicate ops.size false) _ _ (lab_length rs 0) (by simp) hd hmem hpw hch
  simp only [List.cons_append, List.nil_append] at ht
  have hstep : ∃ t, Steps P (lone fr cs w) (lone { fr with todo := .inRegion ops (Region.linearise .any ops t) :: k } cs w.drew) := by
    have hrun : ∃ t, (choose (.order fr.fn id)).run P w = .ok t w.drew := by
      rw [run_choose_drew]
      exact ⟨_, rfl⟩
    obtain ⟨t, ht'⟩ := hrun
    refine ⟨t, step_go ?_⟩
    simp [-run_choose, -run_choose_drew, stepG, stepG.exec, hm, ht, ht', Region.schedule, hmx]
  obtain ⟨t, hstep⟩ := hstep
  have hm1 := hmain t
  rw [hlen] at hm1
  obtain ⟨g1, fr1, cs1, w1, q1, q2, q3, q4, q5, q6, q7⟩ := hm1 g { fr with todo := .inRegion ops (Region.linearise .any ops t) :: k } cs w.drew k (hr1.todo _) hm rfl (fun e => by cases e) k' hk
  exact ⟨g1, fr1, cs1, w1, q1, hdr.trans q2, ⟨q3.fn, q3.kind, q3.round⟩, q4, q5, q6, hstep.trans q7⟩

end
end
end Go.Abs
