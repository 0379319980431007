/- The evaluator: answers of functions of plain values, each computed by itself beside one table; a closed call beside two tables. -/
import Derived.Test.YtodjacllgcficaaDoorEv35
namespace Go.Proofs.YtodjacllgcficaaDoor.Ev
set_option linter.unusedSectionVars false
set_option linter.unusedSimpArgs false
set_option linter.unusedVariables false
open Go Go.ChangeShapes Go.WideShapes Go.ChangeAt

noncomputable def isScal1 : AV → Bool
  | .bool _ => true
  | .int _ _ => true
  | .str _ _ => true
  | _ => false
noncomputable def isScal : AV → Bool
  | .agg cs => cs.all isScal1
  | v => isScal1 v

theorem scal1_rel {φ ψ : Emb} {v : AV} {u : Value} (h : isScal1 v = true) (hv : VRel φ v u) : VRel ψ v u := by
  cases hv with
  | bool b => exact .bool b
  | int k n => exact .int k n
  | str s => exact .str s
  | _ => cases h

theorem scal1s_rel {φ ψ : Emb} : ∀ {vs : List AV} {us : List Value}, vs.all isScal1 = true → VsRel φ vs us → VsRel ψ vs us
  | [], _, _, .nil => .nil
  | x :: xs, _ :: _, h, .cons _ _ _ _ hx hxs => by
    rw [List.all_cons, Bool.and_eq_true] at h
    exact .cons _ _ _ _ (scal1_rel h.1 hx) (scal1s_rel h.2 hxs)

theorem scal_rel {φ ψ : Emb} {v : AV} {u : Value} (h : isScal v = true) (hv : VRel φ v u) : VRel ψ v u := by
  cases v with
  | agg cs => cases hv with
    | agg _ us hus => exact .agg _ _ (scal1s_rel h hus)
  | _ => exact scal1_rel h hv

theorem scals_rel {φ ψ : Emb} : ∀ {vs : List AV} {us : List Value}, vs.all isScal = true → VsRel φ vs us → VsRel ψ vs us
  | [], _, _, .nil => .nil
  | x :: xs, _ :: _, h, .cons _ _ _ _ hx hxs => by
    rw [List.all_cons, Bool.and_eq_true] at h
    exact .cons _ _ _ _ (scal_rel h.1 hx) (scals_rel h.2 hxs)

noncomputable def sameAll : List AV → List AV → Bool
  | [], [] => true
  | x :: r, y :: l => bif AV.same x y then sameAll r l else false
  | _, _ => false

theorem sameAll_eq : ∀ {a b : List AV}, sameAll a b = true → a = b
  | [], [], _ => rfl
  | [], _ :: _, h => by cases h
  | _ :: _, [], h => by cases h
  | x :: r, y :: l, h => by
    unfold sameAll at h
    cases h1 : AV.same x y
    · rw [h1] at h; cases h
    · rw [h1, cond_true] at h
      rw [same_eq h1, sameAll_eq h]

noncomputable def findE (args : List AV) : List (List AV × AV) → Option AV
  | [] => none
  | (a, v) :: r => bif sameAll a args then some v else findE args r

theorem findE_mem {args : List AV} {v : AV} : ∀ {es : List (List AV × AV)}, findE args es = some v → (args, v) ∈ es
  | [], h => by cases h
  | (a, x) :: r, h => by
    unfold findE at h
    cases h1 : sameAll a args
    · rw [h1, cond_false] at h
      exact List.mem_cons_of_mem _ (findE_mem h)
    · rw [h1, cond_true] at h
      cases h
      rw [sameAll_eq h1]
      exact List.mem_cons_self

noncomputable def cellsAre (t : T AV) : Nat → List AV → Bool
  | _, [] => true
  | i, x :: l => match t.get i with
    | some y => bif AV.same1 y x then cellsAre t (i + 1) l else false
    | none => false

theorem cellsAre_get {t : T AV} : ∀ {l : List AV} {i : Nat}, cellsAre t i l = true → ∀ j x, l[j]? = some x → t.get (i + j) = some x
  | [], _, _, j, x, h => by simp at h
  | y :: l, i, h, j, x, hj => by
    unfold cellsAre at h
    split at h
    · rename_i z hz
      cases h1 : AV.same1 z y
      · rw [h1] at h; cases h
      · rw [h1, cond_true] at h
        cases j with
        | zero =>
          simp only [List.getElem?_cons_zero, Option.some.injEq] at hj
          rw [Nat.add_zero, hz, same1_eq h1, hj]
        | succ j =>
          rw [List.getElem?_cons_succ] at hj
          have := cellsAre_get h j x hj
          rwa [show i + 1 + j = i + (j + 1) by omega] at this
    · cases h

noncomputable def tabSame (M : Mem) (g : Nat) (l : List AV) : Bool :=
  match M.heap.get g with
  | some (.row r) => bif Nat.beq r.cls 0 then cellsAre r.cells 0 l else false
  | _ => false

/-- Answers that are known, beside a table. -/
noncomputable def sumG (g : Nat) (tab : List AV) (es : List (List AV × AV)) (args : List AV) (M : Mem) : Option (AV × Mem) :=
  bif tabSame M g tab && args.all isScal then (match findE args es with
    | some v => bif isScal v then some (v, M) else none
    | none => none) else none

theorem Rep.outlast {P : Program} {G N : Nat} {φ : Emb} {M : Mem} {w w' : World} (R : Rep P G N φ M w) (h : Kept w.heap.size w w') : Rep P G N φ M w' := by
  refine ⟨fun k q hq => ?_, fun k q hq => ?_, R.apart, R.eps, R.top, Nat.le_trans R.heap h.size, R.gn, R.ng, R.glob⟩
  · obtain ⟨a1, a2, a3⟩ := R.dom k q hq
    exact ⟨a1, Nat.lt_of_lt_of_le a2 h.size, a3⟩
  · obtain ⟨o, ho, hor⟩ := R.blk k q hq
    exact ⟨o, ho, hor.keep φ.le_refl (h.block _ (R.dom k q hq).2.1) (fun s _ hs => hs)⟩

theorem sumG_ok {V V0 : Env} (hS : Sure V0) (hP : V0.P = V.P) (hG : V0.G = V.G) {n g : Nat} {f : FuncId} {tab : List AV} {es : List (List AV × AV)} (hg : g < V.P.globals.size) (hg6 : g + 1 < 64) (htab : tab.all isScal1 = true) (hne : 0 < tab.length)
    (hes : ∀ e ∈ es, ∀ t fr, ∃ M', evA V0 n f e.1 (tabM V.G g (tabRow tab t fr)) = some (e.2, M'))
    {args : List AV} {us : List Value} {φ : Emb} {M M' : Mem} {w : World} {v : AV} {N : Nat} (R : Rep V.P V.G N φ M w) (hv : VsRel φ args us) (h : sumG g tab es args M = some (v, M')) :
    Calls V.P f us.toArray w (Ends V.P V.G N φ M w v M') := by
  unfold sumG at h
  cases hc : (tabSame M g tab && args.all isScal)
  · rw [hc] at h; cases h
  · rw [hc, cond_true] at h
    rw [Bool.and_eq_true] at hc
    obtain ⟨hc1, hc2⟩ := hc
    split at h
    · rename_i v' hfind
      cases hsc : isScal v'
      · rw [hsc] at h; cases h
      · rw [hsc, cond_true] at h
        cases h
        unfold tabSame at hc1
        split at hc1
        · rename_i r hr
          cases hcls : Nat.beq r.cls 0
          · rw [hcls] at hc1; cases hc1
          · rw [hcls, cond_true] at hc1
            have hcls := Nat.eq_of_beq_eq_true hcls
            obtain ⟨l, hl, hlb, hlo⟩ := R.glob g _ hg hr
            obtain ⟨o, ho, hor⟩ := R.blk g l hl
            rw [hr] at ho; cases ho
            have hor : RowRel V.P φ M w r l := hor
            obtain ⟨c, fz, hw, _, _, _, hlv⟩ := hor
            obtain ⟨_, _, hcell⟩ := hlv (live_of (.inl hcls))
            have hcells : ∀ (i : Nat) (x : AV), tab[i]? = some x → ∃ u, c[i]? = some u ∧ ∀ φ, VRel φ x u := by
              intro i x hx
              have h1 := cellsAre_get hc1 i x hx
              rw [Nat.zero_add] at h1
              obtain ⟨_, u, h2, h3⟩ := hcell i x h1
              rw [hlo, Nat.zero_add] at h2
              exact ⟨u, h2, fun ψ => scal1_rel (List.all_eq_true.1 htab x (List.mem_of_getElem? hx)) h3⟩
            have hlen : tab.length ≤ c.size := by
              obtain ⟨u, hu, _⟩ := hcells (tab.length - 1) tab[tab.length - 1] (by simp)
              have := (Array.getElem?_eq_some_iff.1 hu).1
              omega
            rw [hlb] at hw
            obtain ⟨M1, hM1⟩ := hes _ (findE_mem hfind) r.elem fz.2
            have R0 := rep_tab (P := V.P) (G := V.G) R.ng (Nat.lt_of_lt_of_le hg R.ng) hg6 hw hlen hcells
            rw [← hP, ← hG] at R0
            rw [← hG] at hM1
            have hcall := ev_ok hS (us := us.toArray) R0 (by simpa using scals_rel hc2 hv) hM1
            rw [hP] at hcall
            refine hcall.mono ?_
            rintro e w' ⟨φ', u, rfl, h1, _, _, h2, _⟩
            exact ⟨φ, u, rfl, scal_rel hsc h1, R.outlast h2, .refl _ _, ⟨h2.os, h2.tape, h2.output, h2.size, fun k hk => h2.block k (Nat.lt_of_lt_of_le hk R.heap)⟩, .refl _ _⟩
        · cases hc1
    · cases h

/-- Two tables. -/
noncomputable def tabM2 (G g g' : Nat) (r r' : Row) : Mem := { next := G, heap := T.ofF 6 (fun i => if i = g then some (.row r) else if i = g' then some (.row r') else none), eps := .nil }

theorem tabM2_get {G g g' : Nat} {r r' : Row} {b : Nat} {o : Blk} (h : (tabM2 G g g' r r').heap.get b = some o) : (b = g ∧ o = .row r) ∨ (b = g' ∧ o = .row r') := by
  have := T.ofF_some _ _ _ _ h
  by_cases e : b = g
  · rw [if_pos e] at this; cases this; exact .inl ⟨e, rfl⟩
  · rw [if_neg e] at this
    by_cases e' : b = g'
    · rw [if_pos e'] at this; cases this; exact .inr ⟨e', rfl⟩
    · rw [if_neg e'] at this; cases this

theorem rep_tab2 {P : Program} {G g g' : Nat} {l l' : List AV} {c c' : Array Value} {t t' : TypeId} {fz fz' : Nat × Nat} {W : World} (hP : P.globals.size ≤ G) (hne : g ≠ g') (hg : g < G) (hg' : g' < G) (hg6 : g + 1 < 64) (hg6' : g' + 1 < 64)
    (hW : W.heap[g]? = some (.cells c t fz)) (hW' : W.heap[g']? = some (.cells c' t' fz')) (hlen : l.length ≤ c.size) (hlen' : l'.length ≤ c'.size) (hcells : ∀ (i : Nat) (x : AV), l[i]? = some x → ∃ u, c[i]? = some u ∧ ∀ φ, VRel φ x u)
    (hcells' : ∀ (i : Nat) (x : AV), l'[i]? = some x → ∃ u, c'[i]? = some u ∧ ∀ φ, VRel φ x u) :
    Rep P G W.heap.size (fun b => if b = g then some ⟨g, 0, c.size, P.cellsOf t⟩ else if b = g' then some ⟨g', 0, c'.size, P.cellsOf t'⟩ else none) (tabM2 G g g' (tabRow l t fz.2) (tabRow l' t' fz'.2)) W := by
  have hget : (tabM2 G g g' (tabRow l t fz.2) (tabRow l' t' fz'.2)).heap.get g = some (.row (tabRow l t fz.2)) := by
    unfold tabM2
    simp only []
    rw [T.ofF_get 6 _ g hg6, if_pos rfl]
  have hget' : (tabM2 G g g' (tabRow l t fz.2) (tabRow l' t' fz'.2)).heap.get g' = some (.row (tabRow l' t' fz'.2)) := by
    unfold tabM2
    simp only []
    rw [T.ofF_get 6 _ g' hg6', if_neg (fun e => hne e.symm), if_pos rfl]
  have hlt := (Array.getElem?_eq_some_iff.1 hW).1
  have hlt' := (Array.getElem?_eq_some_iff.1 hW').1
  have inv : ∀ b (q : Loc), (if b = g then some (⟨g, 0, c.size, P.cellsOf t⟩ : Loc) else if b = g' then some ⟨g', 0, c'.size, P.cellsOf t'⟩ else none) = some q → (b = g ∧ q = ⟨g, 0, c.size, P.cellsOf t⟩) ∨ (b = g' ∧ q = ⟨g', 0, c'.size, P.cellsOf t'⟩) := by
    intro b q h
    by_cases e : b = g
    · rw [if_pos e] at h; cases h; exact .inl ⟨e, rfl⟩
    · rw [if_neg e] at h
      by_cases e' : b = g'
      · rw [if_pos e'] at h; cases h; exact .inr ⟨e', rfl⟩
      · rw [if_neg e'] at h; cases h
  have row : ∀ (l : List AV) (c : Array Value) (t : TypeId) (fz : Nat × Nat) (g : Nat) φ M, W.heap[g]? = some (.cells c t fz) → l.length ≤ c.size → (∀ (i : Nat) (x : AV), l[i]? = some x → ∃ u, c[i]? = some u ∧ ∀ φ, VRel φ x u) →
      RowRel P φ M W (tabRow l t fz.2) ⟨g, 0, c.size, P.cellsOf t⟩ := by
    intro l c t fz g φ M hW hlen hcells
    refine ⟨c, fz, hW, by simp, rfl, fun h => (by cases h), fun _ => ⟨hlen, .inr (.inl (by simp [tabRow])), fun i v hv => ?_⟩⟩
    have hv' := T.ofL_get _ _ _ _ hv
    obtain ⟨u, h1, h2⟩ := hcells i v hv'
    refine ⟨?_, u, by simpa using h1, h2 _⟩
    exact (List.getElem?_eq_some_iff.1 hv').1
  refine ⟨fun b q h => ?_, fun b q h => ?_, fun b b' q q' h h' hbb hq => ?_, fun b r h => ?_, fun b o h => ?_, Nat.le_refl _, Nat.le_refl _, hP, fun k o hk h => ?_⟩
  · rcases inv b q h with ⟨rfl, rfl⟩ | ⟨rfl, rfl⟩
    · exact ⟨hg, hlt, fun h' => absurd h' (by omega)⟩
    · exact ⟨hg', hlt', fun h' => absurd h' (by omega)⟩
  · rcases inv b q h with ⟨rfl, rfl⟩ | ⟨rfl, rfl⟩
    · exact ⟨_, hget, row l c t fz b _ _ hW hlen hcells⟩
    · exact ⟨_, hget', row l' c' t' fz' b _ _ hW' hlen' hcells'⟩
  · exfalso
    rcases inv b q h with ⟨e1, rfl⟩ | ⟨e1, rfl⟩ <;> rcases inv b' q' h' with ⟨e2, rfl⟩ | ⟨e2, rfl⟩
    · exact hbb (e1.trans e2.symm)
    · exact hne hq
    · exact hne hq.symm
    · exact hbb (e1.trans e2.symm)
  · rcases tabM2_get h with ⟨_, e⟩ | ⟨_, e⟩ <;> (cases e; exact .inl rfl)
  · rcases tabM2_get h with ⟨rfl, _⟩ | ⟨rfl, _⟩
    · exact hg
    · exact hg'
  · rcases tabM2_get h with ⟨rfl, _⟩ | ⟨rfl, _⟩
    · exact ⟨_, if_pos rfl, rfl, rfl⟩
    · exact ⟨_, by rw [if_neg (fun e => hne e.symm), if_pos rfl], rfl, rfl⟩

/-- A closed call that answers true, beside two tables. -/
theorem closed_tab2 {V : Env} (hS : Sure V) {n g g' : Nat} {f : FuncId} {l l' : List AV} (hP : V.P.globals.size ≤ V.G) (hne : g ≠ g') (hg : g < V.G) (hg' : g' < V.G) (hg6 : g + 1 < 64) (hg6' : g' + 1 < 64)
    (h : ∀ t fr t' fr', isTrue (evA V n f [] (tabM2 V.G g g' (tabRow l t fr) (tabRow l' t' fr'))) = true) {w : World} {c c' : Array Value} {t t' : TypeId} {fz fz' : Nat × Nat}
    (hW : w.heap[g]? = some (.cells c t fz)) (hW' : w.heap[g']? = some (.cells c' t' fz')) (hlen : l.length ≤ c.size) (hlen' : l'.length ≤ c'.size) (hcells : ∀ (i : Nat) (x : AV), l[i]? = some x → ∃ u, c[i]? = some u ∧ ∀ φ, VRel φ x u)
    (hcells' : ∀ (i : Nat) (x : AV), l'[i]? = some x → ∃ u, c'[i]? = some u ∧ ∀ φ, VRel φ x u) :
    Calls V.P f #[] w fun e w' => e = .returned (.bool true) ∧ Kept w.heap.size w w' := by
  obtain ⟨M', hM⟩ := isTrue_inv (h t fz.2 t' fz'.2)
  refine (ev_ok hS (us := #[]) (rep_tab2 hP hne hg hg' hg6 hg6' hW hW' hlen hlen' hcells hcells') .nil hM).mono ?_
  rintro e w' ⟨φ', u, rfl, h1, _, _, h2, _⟩
  cases h1
  exact ⟨rfl, h2⟩

end Go.Proofs.YtodjacllgcficaaDoor.Ev
