/- The evaluator: a closed call; a row's last step, of a world that keeps what it had. -/
import Derived.Test.YtcpffiihdnecjaaEv32
import Derived.ProofKit
import Derived.OpenShut
namespace Go.Proofs.Ytcpffiihdnecjaa.Ev
set_option linter.unusedSectionVars false
set_option linter.unusedSimpArgs false
set_option linter.unusedVariables false
open Go Go.ChangeShapes Go.WideShapes Go.ChangeAt

/-- Nothing. -/
noncomputable def M0 (n : Nat) : Mem := { next := n, heap := .nil, eps := .nil }

/-- An abstract memory that knows of no block is any world's. -/
theorem rep0 {P : Program} {G n : Nat} (w : World) (h : P.globals.size ≤ G) (hn : G ≤ n) : Rep P G w.heap.size (fun _ => none) (M0 n) w := by
  refine ⟨fun b l h => (by cases h), fun b l h => (by cases h), fun b b' l l' h => (by cases h), fun b r h => ?_, fun b o h => ?_, Nat.le_refl _, hn, h, fun g o _ h => ?_⟩
  · rw [M0, T.get_nil] at h; cases h
  · rw [M0, T.get_nil] at h; cases h
  · rw [M0, T.get_nil] at h; cases h

/-- What is known besides: nothing. -/
theorem sure0 {V : Env} (h1 : V.E = tabOf V.P) (h2 : V.ext = .nil) (h3 : V.sum = .nil) (h4 : V.P.funcs.all (fun fn => fn.body.isNone || !(fn.name == "runtime.NumGoroutine")) = true) : Sure V := by
  refine ⟨h1, fun f fn hf hb => ?_, fun f g _ _ _ _ _ _ _ _ hg => ?_, fun f g _ _ _ _ _ _ _ _ hg => ?_⟩
  · have := Array.all_eq_true_iff_forall_mem.1 h4 fn (Array.mem_of_getElem? hf)
    cases h : fn.body with
    | none => rw [h] at hb; cases hb
    | some c =>
      rw [h] at this
      simpa using this
  · rw [h2, T.get_nil] at hg; cases hg
  · rw [h3, T.get_nil] at hg; cases hg

noncomputable def isTrue (x : Option (AV × Mem)) : Bool := match x with
  | some (.bool true, _) => true
  | _ => false

theorem isTrue_inv {x : Option (AV × Mem)} (h : isTrue x = true) : ∃ M', x = some (.bool true, M') := by
  unfold isTrue at h
  split at h
  · exact ⟨_, rfl⟩
  · cases h

/-- A closed call that answers true. -/
theorem closed {V : Env} (hS : Sure V) {n k : Nat} {f : FuncId} (hG : V.P.globals.size ≤ V.G) (hk : V.G ≤ k) (h : isTrue (evA V n f [] (M0 k)) = true) (w : World) :
    Calls V.P f #[] w fun e w' => e = .returned (.bool true) ∧ Kept w.heap.size w w' := by
  obtain ⟨M', hM⟩ := isTrue_inv h
  refine (ev_ok hS (us := #[]) (rep0 w hG hk) .nil hM).mono ?_
  rintro e w' ⟨φ', u, rfl, h1, _, _, h2, _⟩
  cases h1
  exact ⟨rfl, h2⟩

theorem Kept.keptBut {w w' : World} (h : Kept w.heap.size w w') (may : MemPlace → Prop) : w.keptBut w' may := by
  refine ⟨h.os, h.output, fun i hi => ?_⟩
  rw [h.block i hi]
  cases w.heap[i]? with
  | none => simp
  | some o => cases o <;> simp

theorem Kept.frozen {w w' : World} (h : Kept w.heap.size w w') {a : Addr} (ha : a.block < w.heap.size) : w'.frozen? a = w.frozen? a := by
  unfold World.frozen?
  rw [h.block _ ha]

theorem post_of_kept {H : Type} {enc : TypeId × Value → H} {P : Program} {f : Func} {s : ChangeSpec} {apart fresh handsOn again : Bool} {W W' : World} {args : Array Value} {v : Value} {ds gs : List (DataW H)} {before pa pv : List MemPlace}
    (hW : DataW.Whole enc P f.params.toList s.vars apart W args.toList ds gs before)
    (hres : ∀ (b : Nat) (sp : Nat → Bool) (hd : Bool), DataW.TrodAll enc P W' b sp hd f.resultTypes.toList (v.resultList f.resultTypes.size) (s.fn H (ds ++ gs)).results [])
    (hargs : ∀ sp : Nat → Bool, (∀ p ∈ before, sp p.block = true) → DataW.TrodAll enc P W' 0 sp true f.params.toList args.toList (s.fn H (ds ++ gs)).args pa)
    (hvars : ∀ sp : Nat → Bool, (∀ p ∈ before, sp p.block = true) → DataW.TrodVars enc P W' sp s.vars (s.fn H (ds ++ gs)).vars pv)
    (hps : before = pa ++ pv) (hk : Kept W.heap.size W W')
    (hok : ∀ (j : Nat) (t : TypeId) (r : Value), f.resultTypes[j]? = some t → (v.resultList f.resultTypes.size)[j]? = some r → Value.okWide P W' .any 0 t r) :
    s.post enc P f apart fresh handsOn again W args v W' := by
  have hlt : ∀ p ∈ before, p.block < W.heap.size := fun p hp => hW.lt p hp
  have hold : ∀ p ∈ before, (fun b => decide (b < W.heap.size)) p.block = true := fun p hp => by simpa using hlt p hp
  refine ⟨ds, gs, before, [], pa, pv, hW, hres _ _ _, hargs _ hold, hvars _ hold, hk.keptBut _, fun _ => ?_⟩
  obtain ⟨_, _, _, _, _, hz, hn⟩ := hW
  refine ⟨hok, _, _, ([] ++ pa) ++ pv, ⟨[] ++ pa, pv, trodAll_append (hargs _ (fun _ _ => rfl)) (hres _ _ _), hvars _ (fun _ _ => rfl), rfl, ?_, ?_⟩, ?_⟩
  · intro b off hp
    have hp' : MemPlace.cell b off ∈ before := by rw [hps]; simpa using hp
    rw [hk.frozen (hlt _ hp')]
    exact hz b off hp'
  · intro ha
    have := hn ha
    rw [hps] at this
    simpa using this
  · intro p hp _
    rw [hps]
    simpa using hp

end Go.Proofs.Ytcpffiihdnecjaa.Ev
