/- The evaluator: the orders in which a region may be carried out. -/
import Derived.Test.YtcpffiihdnecjaaEv24
import Derived.Orders
namespace Go.Proofs.Ytcpffiihdnecjaa.Ev
set_option linter.unusedSectionVars false
set_option linter.unusedSimpArgs false
set_option linter.unusedVariables false
open Go

/-- Behind D, l is an order of what is left. -/
noncomputable def Valid (ops : Array Oper) : List Nat → List Nat → Prop
  | D, [] => ∀ i, i < ops.size → i ∈ D
  | D, i :: l => i < ops.size ∧ i ∉ D ∧ (∀ o, ops[i]? = some o → ∀ e ∈ o.after, Region.binds .any e = true → e.on ∈ D) ∧ Valid ops (i :: D) l

/-- Every edge leads back. -/
noncomputable def Back (ops : Array Oper) : Prop := ∀ i o, ops[i]? = some o → ∀ e ∈ o.after, Region.binds .any e = true → e.on < i

noncomputable def unl (D : List Nat) : Nat → Nat
  | 0 => 0
  | k + 1 => unl D k + if k ∈ D then 0 else 1

theorem unl_zero {D : List Nat} : ∀ {n : Nat}, unl D n = 0 → ∀ i, i < n → i ∈ D
  | n + 1, h, i, hi => by
    unfold unl at h
    by_cases hn : n ∈ D
    · rw [if_pos hn] at h
      by_cases e : i = n
      · rw [e]; exact hn
      · exact unl_zero (n := n) (by omega) i (by omega)
    · rw [if_neg hn] at h; omega

theorem unl_same {D : List Nat} {i : Nat} : ∀ {n : Nat}, n ≤ i → unl (i :: D) n = unl D n
  | 0, _ => rfl
  | n + 1, h => by
    unfold unl
    rw [unl_same (n := n) (by omega)]
    have : (n ∈ i :: D) ↔ n ∈ D := by
      rw [List.mem_cons]
      exact ⟨fun h' => h'.resolve_left (by omega), .inr⟩
    by_cases hn : n ∈ D
    · rw [if_pos hn, if_pos (this.2 hn)]
    · rw [if_neg hn, if_neg (fun e => hn (this.1 e))]

theorem unl_less {D : List Nat} {i : Nat} (hd : i ∉ D) : ∀ {n : Nat}, i < n → unl (i :: D) n + 1 = unl D n
  | n + 1, h => by
    unfold unl
    by_cases e : i = n
    · subst e
      rw [unl_same (Nat.le_refl _), if_pos (by simp), if_neg hd]
    · have ih := unl_less hd (n := n) (by omega)
      have : (n ∈ i :: D) ↔ n ∈ D := by
        rw [List.mem_cons]
        exact ⟨fun h' => h'.resolve_left (by omega), .inr⟩
      by_cases hn : n ∈ D
      · rw [if_pos hn, if_pos (this.2 hn)]; omega
      · rw [if_neg hn, if_neg (fun e => hn (this.1 e))]; omega

theorem unl_nil : ∀ n, unl [] n = n
  | 0 => rfl
  | n + 1 => by unfold unl; rw [unl_nil n]; simp

/-- Whatever has been carried out: all, or one that is left has all that it asks for. -/
noncomputable def Flows (md : Region.Mode) (ops : Array Oper) : Prop := ∀ D : List Nat, (∀ i, i < ops.size → i ∈ D) ∨ ∃ i, i < ops.size ∧ i ∉ D ∧ ∀ o, ops[i]? = some o → ∀ e ∈ o.after, Region.binds md e = true → e.on ∈ D

theorem flows_back {ops : Array Oper} (hb : Back ops) : Flows .any ops := by
  intro D
  have key : ∀ n, n ≤ ops.size → (∀ i, i < n → i ∈ D) ∨ ∃ i, i < ops.size ∧ i ∉ D ∧ ∀ o, ops[i]? = some o → ∀ e ∈ o.after, Region.binds .any e = true → e.on ∈ D := by
    intro n
    induction n with
    | zero => intro _; exact .inl (fun i hi => by omega)
    | succ n ih =>
      intro h
      rcases ih (by omega) with h1 | h1
      · by_cases hn : n ∈ D
        · refine .inl (fun i hi => ?_)
          by_cases e : i = n
          · rw [e]; exact hn
          · exact h1 i (by omega)
        · exact .inr ⟨n, by omega, hn, fun o ho e he hbd => h1 e.on (hb n o ho e he hbd)⟩
      · exact .inr h1
  exact key _ (Nat.le_refl _)

theorem fold_mask (md : Region.Mode) : ∀ (l : List Edge) (s : Nat), (∀ j, s.testBit j = true → (l.foldl (fun s e => if Region.binds md e then s ||| 2 ^ e.on else s) s).testBit j = true) ∧
    ∀ e ∈ l, Region.binds md e = true → (l.foldl (fun s e => if Region.binds md e then s ||| 2 ^ e.on else s) s).testBit e.on = true
  | [], s => ⟨fun j h => h, fun e h => by cases h⟩
  | x :: l, s => by
    obtain ⟨h1, h2⟩ := fold_mask md l (if Region.binds md x then s ||| 2 ^ x.on else s)
    refine ⟨fun j hj => h1 j ?_, fun e he hb => ?_⟩
    · by_cases hx : Region.binds md x = true
      · rw [if_pos hx, Nat.testBit_or, hj]; rfl
      · rw [if_neg hx]; exact hj
    · rcases List.mem_cons.1 he with rfl | he
      · refine h1 _ ?_
        rw [if_pos hb, Nat.testBit_or, Nat.testBit_two_pow]
        simp
      · exact h2 e he hb

theorem peel1_inv {md : Region.Mode} {ops : Array Oper} {D : List Nat} : ∀ (l : List Oper) (i d : Nat), (∀ j o, l[j]? = some o → ops[i + j]? = some o) →
    ((∀ j, d.testBit j = true → j ∈ D) ∨ ∃ i, i < ops.size ∧ i ∉ D ∧ ∀ o, ops[i]? = some o → ∀ e ∈ o.after, Region.binds md e = true → e.on ∈ D) →
    ((∀ j, (peel1 (l.map (maskOf md)) i d).testBit j = true → j ∈ D) ∨ ∃ i, i < ops.size ∧ i ∉ D ∧ ∀ o, ops[i]? = some o → ∀ e ∈ o.after, Region.binds md e = true → e.on ∈ D)
  | [], i, d, _, h => h
  | o :: l, i, d, hl, h => by
    rw [List.map_cons]
    unfold peel1
    refine peel1_inv l (i + 1) _ (fun j o' hj => by have := hl (j + 1) o' (by simpa using hj); rwa [show i + 1 + j = i + (j + 1) by omega]) ?_
    cases hb : Nat.beq (maskOf md o &&& d) (maskOf md o)
    · exact h
    · rw [cond_true]
      rcases h with h | h
      · have hio : ops[i]? = some o := by simpa using hl 0 o rfl
        have hdep : ∀ e ∈ o.after, Region.binds md e = true → e.on ∈ D := by
          intro e he hbd
          refine h _ ?_
          have h1 := (fold_mask md o.after.toList 0).2 e (by simpa using he) hbd
          have h2 : (maskOf md o).testBit e.on = true := h1
          rw [← Nat.eq_of_beq_eq_true hb, Nat.testBit_and, Bool.and_eq_true] at h2
          exact h2.2
        by_cases hi : i ∈ D
        · refine .inl (fun j hj => ?_)
          rw [Nat.testBit_or, Bool.or_eq_true] at hj
          rcases hj with hj | hj
          · exact h j hj
          · rw [Nat.testBit_two_pow] at hj
            rw [← of_decide_eq_true hj]; exact hi
        · refine .inr ⟨i, (Array.getElem?_eq_some_iff.1 hio).1, hi, fun o' ho' e he hbd => ?_⟩
          rw [hio] at ho'; cases ho'
          exact hdep e he hbd
      · exact .inr h

theorem flows_peel {md : Region.Mode} {ops : Array Oper} (h : peelOk md ops.toList = true) : Flows md ops := by
  intro D
  have key : ∀ k d, ((∀ j, d.testBit j = true → j ∈ D) ∨ ∃ i, i < ops.size ∧ i ∉ D ∧ ∀ o, ops[i]? = some o → ∀ e ∈ o.after, Region.binds md e = true → e.on ∈ D) →
      ((∀ j, (peelN (ops.toList.map (maskOf md)) k d).testBit j = true → j ∈ D) ∨ ∃ i, i < ops.size ∧ i ∉ D ∧ ∀ o, ops[i]? = some o → ∀ e ∈ o.after, Region.binds md e = true → e.on ∈ D) := by
    intro k
    induction k with
    | zero => intro d h; exact h
    | succ k ih => intro d h; exact ih _ (peel1_inv ops.toList 0 d (fun j o hj => by rw [Nat.zero_add, ← Array.getElem?_toList]; exact hj) h)
  rcases key ops.toList.length 0 (.inl (fun j hj => by simp at hj)) with h1 | h1
  · refine .inl (fun i hi => h1 i ?_)
    have := List.all_eq_true.1 h i (List.mem_range.2 (by simpa using hi))
    exact this
  · exact .inr h1

theorem binds_any {md : Region.Mode} {e : Edge} (h : Region.binds .any e = true) : Region.binds md e = true := by
  unfold Region.binds at h ⊢
  cases hg : e.ground <;> rw [hg] at h <;> first
    | rfl
    | cases h

theorem go_valid {md : Region.Mode} {ops : Array Oper} (hb : Flows md ops) : ∀ (fuel t : Nat) (listed : Array Bool) (D : List Nat), listed.size = ops.size → (∀ i, i < ops.size → (listed.getD i true = true ↔ i ∈ D)) → (∀ i, i ∈ D → i < ops.size) → unl D ops.size = fuel →
    Valid ops D (Region.linearise.go md ops fuel t listed [])
  | 0, t, listed, D, _, _, _, hu => by
    simp only [Region.linearise.go, List.reverse_nil, Valid]
    exact unl_zero hu
  | fuel + 1, t, listed, D, hs, hl, hin, hu => by
    simp only [Region.linearise.go]
    change Valid ops D (match (Region.ready md ops listed)[t % (Region.ready md ops listed).length]? with
      | some i => Region.linearise.go md ops fuel (t / (Region.ready md ops listed).length) (listed.setIfInBounds i true) [i]
      | none => [].reverse)
    have dflt : ∀ (i : Nat) (a b : Bool), i < ops.size → listed.getD i a = listed.getD i b := fun i a b hi => by simp [Array.getD, hs, hi]
    cases hi : (Region.ready md ops listed)[t % (Region.ready md ops listed).length]? with
    | none =>
      have hnil : Region.ready md ops listed = [] := by
        cases hr : Region.ready md ops listed with
        | nil => rfl
        | cons x xs =>
          rw [hr] at hi
          have hlt : t % (x :: xs).length < (x :: xs).length := Nat.mod_lt _ (by simp)
          rw [List.getElem?_eq_none_iff] at hi
          omega
      exfalso
      rcases hb D with all | ⟨i, hlt, hD, hdep⟩
      · have zero : ∀ n, n ≤ ops.size → unl D n = 0 := by
          intro n
          induction n with
          | zero => intro _; rfl
          | succ n ih => intro h; unfold unl; rw [ih (by omega), if_pos (all n (by omega))]
        rw [zero _ (Nat.le_refl _)] at hu
        cases hu
      · have : i ∈ Region.ready md ops listed := by
          rw [mem_ready]
          refine ⟨?_, ops[i], by simp [hlt], fun e he hbd => ?_⟩
          · rw [← Bool.not_eq_true]; exact fun h => hD ((hl i hlt).1 h)
          · have heD := hdep ops[i] (by simp [hlt]) e he hbd
            have := hin _ heD
            rw [dflt e.on false true this]
            exact (hl e.on this).2 heD
        rw [hnil] at this
        cases this
    | some i =>
      obtain ⟨h0, o, ho, hall⟩ := mem_ready.1 (List.mem_of_getElem? hi)
      have hlt : i < ops.size := (Array.getElem?_eq_some_iff.1 ho).1
      have hD : i ∉ D := fun h => by rw [(hl i hlt).2 h] at h0; cases h0
      simp only []
      rw [linearise_go_acc]
      simp only [List.reverse_cons, List.reverse_nil, List.nil_append, List.cons_append, Valid]
      refine ⟨hlt, hD, fun o' ho' e he hbd => ?_, ?_⟩
      · rw [ho] at ho'; cases ho'
        have := hall e he (binds_any hbd)
        have hlt' : e.on < ops.size := by
          rcases Nat.lt_or_ge e.on ops.size with h' | h'
          · exact h'
          · rw [show listed.getD e.on false = false by simp [Array.getD, hs, Nat.not_lt.2 h']] at this
            cases this
        rw [dflt e.on false true hlt'] at this
        exact (hl e.on hlt').1 this
      · refine go_valid hb fuel _ _ (i :: D) (by simp [hs]) (fun j hj => ?_) (fun j hj => (List.mem_cons.1 hj).elim (fun e => by rw [e]; exact hlt) (hin j)) (by have := unl_less hD hlt; omega)
        by_cases e : i = j
        · subst e; simp [Array.getD, hs, hlt]
        · rw [getD_set_ne true e, hl j hj, List.mem_cons]
          exact ⟨.inr, fun h => h.resolve_left (fun h' => e h'.symm)⟩

theorem schedule_valid {ops : Array Oper} (hb : Back ops) (hd : (ops.toList.all (fun o => o.after.toList.all (Region.binds .any)) || (peelOk .text ops.toList && peelOk .gc ops.toList)) = true) (m : Bool) (t : Nat) :
    Valid ops [] (Region.schedule m ops t) := by
  have lin : ∀ (md : Region.Mode) (t : Nat), Flows md ops → Valid ops [] (Region.linearise md ops t) := by
    intro md t hf
    unfold Region.linearise
    exact go_valid hf _ _ _ [] (by simp) (fun i hi => by simp [Array.getD, hi]) (fun i hi => by cases hi) (unl_nil _)
  unfold Region.schedule
  split
  · exact lin .any t (flows_back hb)
  · rename_i hc
    rw [Bool.or_eq_true] at hd
    rcases hd with hd | hd
    · exfalso
      apply hc
      have : Region.departs ops = false := by
        unfold Region.departs
        rw [← Bool.not_eq_true, Array.any_eq_true']
        rintro ⟨o, ho, he⟩
        rw [Array.any_eq_true'] at he
        obtain ⟨e, he1, he2⟩ := he
        have h1 := List.all_eq_true.1 hd o (by simpa using ho)
        have h2 := List.all_eq_true.1 h1 e (by simpa using he1)
        rw [h2] at he2
        cases he2
      rw [this]
      simp
    · rw [Bool.and_eq_true] at hd
      split
      · exact lin .text _ (flows_peel hd.1)
      · exact lin .gc _ (flows_peel hd.2)

-- the numbers that come before a number

abbrev Info := Nat × Nat × Bool

theorem fold_bits (b : Edge → Nat) (j : Nat) : ∀ (l : List Edge) (s : Nat), (l.foldl (fun s e => if Region.binds .any e then s ||| 2 ^ e.on ||| b e else s) s).testBit j = true →
    s.testBit j = true ∨ ∃ e ∈ l, Region.binds .any e = true ∧ (j = e.on ∨ (b e).testBit j = true)
  | [], s, h => .inl h
  | e :: l, s, h => by
    rcases fold_bits b j l _ h with h | ⟨e', h1, h2⟩
    · simp only [] at h
      by_cases hb : Region.binds .any e = true
      · rw [if_pos hb, Nat.testBit_or, Nat.testBit_or, Bool.or_eq_true, Bool.or_eq_true] at h
        rcases h with (h | h) | h
        · exact .inl h
        · refine .inr ⟨e, by simp, hb, .inl ?_⟩
          rw [Nat.testBit_two_pow] at h
          exact (of_decide_eq_true h).symm
        · exact .inr ⟨e, by simp, hb, .inr h⟩
      · rw [if_neg hb] at h; exact .inl h
    · exact .inr ⟨e', by simp [h1], h2⟩

theorem infos_spec : ∀ (ops : List Oper) (acc : List Info), ∃ rest : List Info, infos ops acc = acc.reverse ++ rest ∧ rest.length = ops.length ∧
    ∀ i o, ops[i]? = some o → (∀ e ∈ o.after.toList, Region.binds .any e = true → e.on < acc.length + i) → ∀ b l f, rest[i]? = some (b, l, f) →
      ∀ j, b.testBit j = true → ∃ e ∈ o.after.toList, Region.binds .any e = true ∧ (j = e.on ∨ ∃ b' l' f', (acc.reverse ++ rest)[e.on]? = some (b', l', f') ∧ b'.testBit j = true)
  | [], acc => ⟨[], by simp [infos], rfl, fun i o h => by simp at h⟩
  | o :: r, acc => by
    let at_ (i : Nat) : Info := (acc[acc.length - 1 - i]?).getD (0, 0, true)
    let bits := o.after.toList.foldl (fun s e => if Region.binds .any e then s ||| 2 ^ e.on ||| (at_ e.on).1 else s) 0
    let lvl := o.after.toList.foldl (fun s e => if Region.binds .any e then max s ((at_ e.on).2.1 + (if (at_ e.on).2.2 then 0 else 1)) else s) 0
    obtain ⟨rest, h1, h2, h3⟩ := infos_spec r ((bits, lvl, isFloat o.op) :: acc)
    refine ⟨(bits, lvl, isFloat o.op) :: rest, ?_, by simp [h2], fun i o' ho' hback b l f hi j hj => ?_⟩
    · have : infos (o :: r) acc = infos r ((bits, lvl, isFloat o.op) :: acc) := rfl
      rw [this, h1]
      simp
    · cases i with
      | zero =>
        simp only [List.getElem?_cons_zero, Option.some.injEq] at ho' hi
        subst ho'
        cases hi
        rcases fold_bits (fun e => (at_ e.on).1) j _ _ hj with h | ⟨e, he, hb, h⟩
        · simp at h
        · refine ⟨e, he, hb, h.imp id fun h => ?_⟩
          have hlt := hback e he hb
          simp only [Nat.add_zero] at hlt
          cases hg : acc[acc.length - 1 - e.on]? with
          | none =>
            rw [List.getElem?_eq_none_iff] at hg
            omega
          | some y =>
            obtain ⟨b', l', f'⟩ := y
            refine ⟨b', l', f', ?_, ?_⟩
            · rw [List.getElem?_append_left (by simpa using hlt), List.getElem?_reverse hlt]
              exact hg
            · simpa [at_, hg] using h
      | succ i =>
        simp only [List.getElem?_cons_succ] at ho' hi
        obtain ⟨e, he, hb, h⟩ := h3 i o' ho' (fun e he hb => by have := hback e he hb; simp only [List.length_cons]; omega) b l f hi j hj
        refine ⟨e, he, hb, h.imp id fun ⟨b', l', f', g1, g2⟩ => ⟨b', l', f', ?_, g2⟩⟩
        simpa using g1

theorem planAt_mem {ops : List Oper} {inf : List Info} : ∀ (k lvl : Nat) (x : Oper × Nat × Bool × Nat), x ∈ planAt ops inf k lvl → ops[x.2.1]? = some x.1 ∧ ∃ l, inf[x.2.1]? = some (x.2.2.2, l, x.2.2.1)
  | 0, _, x, h => by cases h
  | k + 1, lvl, x, h => by
    unfold planAt at h
    simp only [List.mem_append, List.mem_map, List.mem_filter] at h
    have key : ∀ y, y ∈ (ops.zip inf).zipIdx → (y.1.1, y.2, y.1.2.2.2, y.1.2.1) = x → ops[x.2.1]? = some x.1 ∧ ∃ l, inf[x.2.1]? = some (x.2.2.2, l, x.2.2.1) := by
      rintro ⟨⟨o, b, l, f⟩, i⟩ hy rfl
      rw [List.mem_zipIdx_iff_getElem?] at hy
      rw [List.getElem?_zip_eq_some] at hy
      exact ⟨hy.1, l, hy.2⟩
    rcases h with ⟨y, (⟨⟨h1, _⟩, _⟩ | ⟨⟨h1, _⟩, _⟩), h2⟩ | h
    · exact key y h1 h2
    · exact key y h1 h2
    · exact planAt_mem k _ x h

end Go.Proofs.Ytcpffiihdnecjaa.Ev
