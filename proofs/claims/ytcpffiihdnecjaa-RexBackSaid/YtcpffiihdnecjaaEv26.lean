/- The evaluator: a drawn region's plan, what it is checked for. -/
import Derived.Test.YtcpffiihdnecjaaEv25
namespace Go.Proofs.Ytcpffiihdnecjaa.Ev
set_option linter.unusedSectionVars false
set_option linter.unusedSimpArgs false
set_option linter.unusedVariables false
open Go

abbrev Ent := Oper × Nat × Bool × Nat
noncomputable def infOf (ops : Array Oper) : List Info := infos ops.toList []
noncomputable def planOf (ops : Array Oper) : List Ent := planAt ops.toList (infOf ops) (ops.toList.length + 1) 0

noncomputable def Behind (all : List Oper) (x y : Oper) : Prop := ∀ d, y.dst = some d → d ∉ looks all x ∧ x.dst ≠ some d
noncomputable def Apart (all : List Oper) (x y : Oper) : Prop := Behind all x y ∧ ∀ d, x.dst = some d → d ∉ looks all y
noncomputable def PairOk (all : List Oper) (x y : Ent) : Prop := x.2.2.1 = true → (y.2.2.2.testBit x.2.1 = true ∧ (y.2.2.1 = true → Behind all x.1 y.1)) ∨ Apart all x.1 y.1

theorem behind_spec {all : List Oper} {x y : Oper} (h : behindA all x y = true) : Behind all x y := by
  intro d hd
  unfold behindA at h
  rw [hd] at h
  simp only [Bool.and_eq_true, Bool.not_eq_true', bne_iff_ne, ne_eq] at h
  exact ⟨fun hm => by have := h.1; simp [hm] at this, h.2⟩

theorem apart_spec {all : List Oper} {x y : Oper} (h : apartA all x y = true) : Apart all x y := by
  unfold apartA at h
  rw [Bool.and_eq_true] at h
  refine ⟨behind_spec h.1, fun d hd hm => ?_⟩
  have := h.2
  rw [hd] at this
  simp [hm] at this

theorem pairsOk_spec {all : List Oper} : ∀ {L : List Ent}, pairsOk all L = true → L.Pairwise (PairOk all) ∧ ∀ x ∈ L, x.2.2.1 = true → ∀ d, x.1.dst = some d → d ∉ looks all x.1
  | [], _ => ⟨.nil, fun x h => (by cases h)⟩
  | (x, i, f, b) :: r, h => by
    unfold pairsOk at h
    simp only [Bool.and_eq_true, Bool.or_eq_true, Bool.not_eq_true'] at h
    obtain ⟨⟨h1, h2⟩, h3⟩ := h
    obtain ⟨p1, p2⟩ := pairsOk_spec h3
    refine ⟨.cons (fun y hy hf => ?_) p1, fun y hy => ?_⟩
    · simp only at hf
      rcases h2 with h2 | h2
      · rw [hf] at h2; cases h2
      · have := List.all_eq_true.1 h2 y hy
        simp only [Bool.or_eq_true, Bool.and_eq_true, Bool.not_eq_true'] at this
        rcases this with ⟨t1, t2⟩ | t
        · refine .inl ⟨t1, fun hg => ?_⟩
          rcases t2 with t2 | t2
          · rw [hg] at t2; cases t2
          · exact behind_spec t2
        · exact .inr (apart_spec t)
    · rcases List.mem_cons.1 hy with rfl | hy
      · intro hf d hd hm
        rcases h1 with h1 | h1
        · rw [h1] at hf; cases hf
        · unfold selfOk at h1
          simp only at hd
          rw [hd] at h1
          simp only [Bool.not_eq_true'] at h1
          simp at hm
          simp [hm] at h1
      · exact p2 y hy

theorem orderOk_spec {n : Nat} {all : List Oper} : ∀ {L : List Ent} {D : List Nat}, orderOk n all L D = true →
    (∀ x ∈ L, x.2.1 ∉ D ∧ x.2.1 < n ∧ ∀ e ∈ x.1.after.toList, Region.binds .any e = true → e.on < x.2.1) ∧ L.Pairwise (fun x y => x.2.1 ≠ y.2.1) ∧ (∀ i, i < n → i ∈ D ∨ ∃ x ∈ L, x.2.1 = i) ∧
    L.Pairwise (fun x y => x.2.2.1 = false → y.2.2.2.testBit x.2.1 = true)
  | [], D, h => by
    unfold orderOk at h
    refine ⟨fun x h => (by cases h), .nil, fun i hi => .inl ?_, .nil⟩
    have := List.all_eq_true.1 h i (List.mem_range.2 hi)
    simpa using this
  | (o, i, f, b) :: r, D, h => by
    unfold orderOk at h
    simp only [Bool.and_eq_true, Bool.not_eq_true', decide_eq_true_eq] at h
    obtain ⟨⟨⟨⟨h1, h2⟩, h3⟩, h4⟩, h5⟩ := h
    obtain ⟨p1, p2, p3, p4⟩ := orderOk_spec h5
    have hi : i ∉ D := fun hm => by simp [hm] at h1
    refine ⟨fun x hx => ?_, .cons (fun y hy e => (p1 y hy).1 (by rw [← e]; simp)) p2, fun j hj => ?_, .cons (fun y hy hf => ?_) p4⟩
    · rcases List.mem_cons.1 hx with rfl | hx
      · refine ⟨hi, h2, fun e he hb => ?_⟩
        have := List.all_eq_true.1 h3 e he
        rw [hb] at this
        simp only [Bool.not_true, Bool.false_or, Bool.and_eq_true, decide_eq_true_eq] at this
        exact this.1
      · obtain ⟨q1, q2⟩ := p1 x hx
        exact ⟨fun hm => q1 (by simp [hm]), q2⟩
    · rcases p3 j hj with h | ⟨x, h1, h2⟩
      · rcases List.mem_cons.1 h with rfl | h
        · exact .inr ⟨_, List.mem_cons_self, rfl⟩
        · exact .inl h
      · exact .inr ⟨x, List.mem_cons_of_mem _ h1, h2⟩
    · simp only at hf
      rw [hf] at h4
      simp only [Bool.false_or] at h4
      have := List.all_eq_true.1 h4 y hy
      simp only [Bool.and_eq_true] at this
      exact this.1

structure Plan (ops : Array Oper) (L : List Ent) : Prop where
  here : ∀ x ∈ L, ops[x.2.1]? = some x.1 ∧ ∃ l, (infOf ops)[x.2.1]? = some (x.2.2.2, l, x.2.2.1)
  pair : L.Pairwise (PairOk ops.toList)
  self : ∀ x ∈ L, x.2.2.1 = true → ∀ d, x.1.dst = some d → d ∉ looks ops.toList x.1
  full : ∀ i, i < ops.size → ∃ x ∈ L, x.2.1 = i
  ne : L.Pairwise (fun x y => x.2.1 ≠ y.2.1)
  last : L.Pairwise (fun x y => x.2.2.1 = false → y.2.2.2.testBit x.2.1 = true)
  back : Back ops
  dep : ∀ (i : Nat) (o : Oper), ops[i]? = some o → ∀ (b l : Nat) (f : Bool), (infOf ops)[i]? = some (b, l, f) → ∀ j, b.testBit j = true → ∃ e ∈ o.after, Region.binds .any e = true ∧ (j = e.on ∨ ∃ b' l' f', (infOf ops)[e.on]? = some (b', l', f') ∧ b'.testBit j = true)

theorem planOk_spec {ops : Array Oper} (h : planOk ops.toList = true) : Plan ops (planOf ops) ∧ (ops.toList.all (fun o => o.after.toList.all (Region.binds .any)) || (peelOk .text ops.toList && peelOk .gc ops.toList)) = true := by
  unfold planOk at h
  rw [Bool.and_eq_true, Bool.and_eq_true] at h
  obtain ⟨⟨h1, h2⟩, h3⟩ := h
  have h2 : pairsOk ops.toList (planOf ops) = true := h2
  have h3 : orderOk ops.toList.length ops.toList (planOf ops) [] = true := h3
  obtain ⟨p1, p2⟩ := pairsOk_spec h2
  obtain ⟨q1, q2, q3, q4⟩ := orderOk_spec h3
  have hhere : ∀ x ∈ planOf ops, ops[x.2.1]? = some x.1 ∧ ∃ l, (infOf ops)[x.2.1]? = some (x.2.2.2, l, x.2.2.1) := by
    intro x hx
    obtain ⟨a, b⟩ := planAt_mem _ _ x hx
    exact ⟨by rwa [Array.getElem?_toList] at a, b⟩
  have hfull : ∀ i, i < ops.size → ∃ x ∈ planOf ops, x.2.1 = i := by
    intro i hi
    rcases q3 i (by simpa using hi) with h | h
    · cases h
    · exact h
  have hback : Back ops := by
    intro i o ho e he hb
    obtain ⟨x, hx, rfl⟩ := hfull i (Array.getElem?_eq_some_iff.1 ho).1
    have := (hhere x hx).1
    rw [ho] at this
    cases this
    exact (q1 x hx).2.2 e (by simpa using he) hb
  refine ⟨⟨hhere, p1, p2, hfull, q2, q4, hback, fun i o ho b l f hi j hj => ?_⟩, h1⟩
  obtain ⟨rest, r1, r2, r3⟩ := infos_spec ops.toList []
  simp only [List.reverse_nil, List.nil_append, List.length_nil, Nat.zero_add] at r1 r3
  have hr : infOf ops = rest := r1
  rw [hr] at hi ⊢
  obtain ⟨e, he, h⟩ := r3 i o (by rw [Array.getElem?_toList]; exact ho) (fun e he hb => hback i o ho e (by simpa using he) hb) b l f hi j hj
  exact ⟨e, by simpa using he, h⟩

theorem pair_cases {α : Type} {S : α → α → Prop} {l : List α} (p : l.Pairwise S) : ∀ x ∈ l, ∀ y ∈ l, x = y ∨ S x y ∨ S y x := by
  induction p with
  | nil => intro x hx; cases hx
  | cons h t ih =>
    intro x hx y hy
    rcases List.mem_cons.1 hx with e1 | hx'
    · rcases List.mem_cons.1 hy with e2 | hy'
      · exact .inl (e1.trans e2.symm)
      · exact .inr (.inl (by rw [e1]; exact h y hy'))
    · rcases List.mem_cons.1 hy with e2 | hy'
      · exact .inr (.inr (by rw [e2]; exact h x hx'))
      · exact ih x hx' y hy'

/-- Any slots. -/
noncomputable def T.ofF {α : Type} : Nat → (Nat → Option α) → T α
  | 0, _ => .nil
  | k + 1, f => .node (f 0) (T.ofF k fun i => f (2 * i + 1)) (T.ofF k fun i => f (2 * i + 2))

theorem T.ofF_get {α : Type} : ∀ (k : Nat) (f : Nat → Option α) (i : Nat), i + 1 < 2 ^ k → (T.ofF k f).get i = f i
  | 0, f, i, h => by simp at h
  | k + 1, f, i, h => by
    unfold T.ofF
    rw [T.get_node]
    rw [Nat.pow_succ] at h
    by_cases h0 : i = 0
    · rw [if_pos h0, h0]
    · rw [if_neg h0]
      by_cases h1 : i % 2 = 1
      · rw [if_pos h1, T.ofF_get k _ _ (by omega)]
        congr 1; omega
      · rw [if_neg h1, T.ofF_get k _ _ (by omega)]
        congr 1; omega

theorem T.ofF_some {α : Type} : ∀ (k : Nat) (f : Nat → Option α) (i : Nat) (v : α), (T.ofF k f).get i = some v → f i = some v
  | 0, f, i, v, h => by rw [T.ofF, T.get_nil] at h; cases h
  | k + 1, f, i, v, h => by
    unfold T.ofF at h
    rw [T.get_node] at h
    by_cases h0 : i = 0
    · rw [if_pos h0] at h; rw [h0]; exact h
    · rw [if_neg h0] at h
      by_cases h1 : i % 2 = 1
      · rw [if_pos h1] at h
        have := T.ofF_some k _ _ v h
        rwa [show 2 * (i / 2) + 1 = i by omega] at this
      · rw [if_neg h1] at h
        have := T.ofF_some k _ _ v h
        rwa [show 2 * (i / 2 - 1) + 2 = i by omega] at this

end Go.Proofs.Ytcpffiihdnecjaa.Ev
