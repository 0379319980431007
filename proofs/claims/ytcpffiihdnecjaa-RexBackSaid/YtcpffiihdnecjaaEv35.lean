/- The evaluator: a closed call beside one table of numbers that is laid. -/
import Derived.Test.YtcpffiihdnecjaaEv34
import Derived.LaidMore
namespace Go.Proofs.Ytcpffiihdnecjaa.Ev
set_option linter.unusedSectionVars false
set_option linter.unusedSimpArgs false
set_option linter.unusedVariables false
open Go Go.ChangeShapes Go.WideShapes Go.ChangeAt

noncomputable def tabRow (l : List AV) (t fr : Nat) : Row := { cells := T.ofL 10 l, len := l.length, cls := 0, ep := 0, fr := fr, elem := t, whole := false, sh := false }
noncomputable def tabM (G g : Nat) (r : Row) : Mem := { next := G, heap := T.ofF 6 (fun i => if i = g then some (.row r) else none), eps := .nil }

theorem tabM_get {G g : Nat} {r : Row} {b : Nat} {o : Blk} (h : (tabM G g r).heap.get b = some o) : b = g ∧ o = .row r := by
  have := T.ofF_some _ _ _ _ h
  by_cases e : b = g
  · rw [if_pos e] at this; cases this; exact ⟨e, rfl⟩
  · rw [if_neg e] at this; cases this

theorem rep_tab {P : Program} {G g : Nat} {l : List AV} {c : Array Value} {t : TypeId} {fz : Nat × Nat} {W : World} (hP : P.globals.size ≤ G) (hg : g < G) (hg6 : g + 1 < 64) (hW : W.heap[g]? = some (.cells c t fz)) (hlen : l.length ≤ c.size)
    (hcells : ∀ (i : Nat) (x : AV), l[i]? = some x → ∃ u, c[i]? = some u ∧ ∀ φ, VRel φ x u) : Rep P G W.heap.size (fun b => if b = g then some ⟨g, 0, c.size, P.cellsOf t⟩ else none) (tabM G g (tabRow l t fz.2)) W := by
  have hget : (tabM G g (tabRow l t fz.2)).heap.get g = some (.row (tabRow l t fz.2)) := by
    unfold tabM
    simp only []
    rw [T.ofF_get 6 _ g hg6, if_pos rfl]
  have hlt := (Array.getElem?_eq_some_iff.1 hW).1
  have inv : ∀ b (q : Loc), (if b = g then some (⟨g, 0, c.size, P.cellsOf t⟩ : Loc) else none) = some q → b = g ∧ q = ⟨g, 0, c.size, P.cellsOf t⟩ := by
    intro b q h
    by_cases e : b = g
    · rw [if_pos e] at h; cases h; exact ⟨e, rfl⟩
    · rw [if_neg e] at h; cases h
  refine ⟨fun b q h => ?_, fun b q h => ?_, fun b b' q q' h h' hne _ => ?_, fun b r h => ?_, fun b o h => ?_, Nat.le_refl _, Nat.le_refl _, hP, fun k o hk h => ?_⟩
  · obtain ⟨rfl, rfl⟩ := inv b q h
    exact ⟨hg, hlt, fun h' => absurd h' (by omega)⟩
  · obtain ⟨rfl, rfl⟩ := inv b q h
    refine ⟨_, hget, c, fz, hW, by simp, rfl, fun h => (by cases h), fun _ => ⟨fun h => (by cases h), hlen, .inr (.inl (by simp [tabRow])), fun i v hv => ?_⟩⟩
    have hv' := T.ofL_get _ _ _ _ hv
    obtain ⟨u, h1, h2⟩ := hcells i v hv'
    refine ⟨?_, u, by simpa using h1, h2 _⟩
    exact (List.getElem?_eq_some_iff.1 hv').1
  · exact absurd ((inv b q h).1.trans (inv b' q' h').1.symm) hne
  · obtain ⟨_, e⟩ := tabM_get h
    cases e
    exact .inl rfl
  · obtain ⟨rfl, _⟩ := tabM_get h
    exact hg
  · obtain ⟨rfl, _⟩ := tabM_get h
    exact ⟨_, if_pos rfl, rfl, rfl⟩

/-- A closed call that answers true, beside a table. -/
theorem closed_tab {V : Env} (hS : Sure V) {n g : Nat} {f : FuncId} {l : List AV} (hP : V.P.globals.size ≤ V.G) (hg : g < V.G) (hg6 : g + 1 < 64) (h : ∀ t fr, isTrue (evA V n f [] (tabM V.G g (tabRow l t fr))) = true) {w : World} {c : Array Value} {t : TypeId}
    {fz : Nat × Nat} (hW : w.heap[g]? = some (.cells c t fz)) (hlen : l.length ≤ c.size) (hcells : ∀ (i : Nat) (x : AV), l[i]? = some x → ∃ u, c[i]? = some u ∧ ∀ φ, VRel φ x u) :
    Calls V.P f #[] w fun e w' => e = .returned (.bool true) ∧ Kept w.heap.size w w' := by
  obtain ⟨M', hM⟩ := isTrue_inv (h t fz.2)
  refine (ev_ok hS (us := #[]) (rep_tab hP hg hg6 hW hlen hcells) .nil hM).mono ?_
  rintro e w' ⟨φ', u, rfl, h1, _, _, h2, _⟩
  cases h1
  exact ⟨rfl, h2⟩

/-- A row of numbers, as a condition lists it: its cells. -/
theorem ints_of {H : Type} {enc : TypeId × Value → H} {P : Program} {w : World} {base fuel : Nat} {sp : Nat → Bool} {held : Bool} {t e : TypeId} {n : Nat} {k : IntKind} {cs : Array Value} {nums : List Int} {p : List MemPlace}
    (ht : P.underlying t = some (.array n e)) (he : P.underlying e = some (.int k)) (hc : P.cellsOf e = 1) (hct : P.cellsOf t = nums.length) (hn : nums.length = n)
    (h : DataW.trod enc P w base sp held fuel t cs.toList = some (.agg (nums.map fun m => .lit (.int k m)), p)) :
    cs.size = nums.length ∧ ∀ (i : Nat) (m : Int), nums[i]? = some m → cs[i]? = some (.int k m) := by
  obtain ⟨xs, m1, rfl, hx, hlen, hxn, hel⟩ := DataW.trod_array ht h
  simp only [Prod.mk.injEq, DataW.agg.injEq] at hx
  refine ⟨by rw [← hct, ← hlen, Array.length_toList], fun i m hi => ?_⟩
  have hilt : i < n := by rw [← hn]; exact (List.getElem?_eq_some_iff.1 hi).1
  have h1 := hel i hilt
  rw [hc, Nat.mul_one] at h1
  have hxi : (xs.map (·.1))[i]? = some (.lit (.int k m)) := by
    rw [← hx.1, List.getElem?_map, hi]; rfl
  rw [List.getElem?_map] at hxi
  cases hg : xs[i]? with
  | none => rw [hg] at hxi; cases hxi
  | some x =>
    rw [hg] at hxi h1
    simp only [Option.map_some, Option.some.injEq] at hxi
    obtain ⟨m', e1, e2, _⟩ := DataW.trod_int he h1
    rw [e2] at hxi
    simp only [DataW.lit.injEq, Lit.int.injEq, true_and] at hxi
    subst hxi
    have : ((cs.toList.drop i).take 1)[0]? = some (.int k m') := by rw [e1]; rfl
    rw [List.getElem?_take] at this
    simp only [Nat.lt_add_one, if_true, List.getElem?_drop, Nat.add_zero] at this
    rw [← Array.getElem?_toList]
    exact this

end Go.Proofs.Ytcpffiihdnecjaa.Ev
