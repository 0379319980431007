/- The evaluator: frames, what is to do. -/
import Derived.Test.YtcpffiihdnecjaaEv29
namespace Go.Proofs.Ytcpffiihdnecjaa.Ev
set_option linter.unusedSectionVars false
set_option linter.unusedSimpArgs false
set_option linter.unusedVariables false
open Go

inductive ItRel : AItem → Item → Prop
  | code (c : Code) : ItRel (.code c) (.code c)
  | inBlock (n : Nat) : ItRel (.inBlock n) (.inBlock n)
  | inLoop (c : Code) : ItRel (.inLoop c) (.inLoop c)
  | inScope (c : Code) : ItRel (.inScope c) (.inScope c)

inductive ItsRel : List AItem → List Item → Prop
  | nil : ItsRel [] []
  | cons (x : AItem) (y : Item) (k : List AItem) (k' : List Item) : ItRel x y → ItsRel k k' → ItsRel (x :: k) (y :: k')

/-- In a region in the text's order, at an operation. -/
inductive TRel : List AItem → List Item → Prop
  | plain (k : List AItem) (k' : List Item) : ItsRel k k' → TRel k k'
  | ops (ops : Array Oper) (i : Nat) (k : List AItem) (k' : List Item) : ItsRel k k' → TRel (.ops ops.toList (ops.toList.drop i) :: k) (.inRegion ops (List.range' i (ops.size - i)) :: k')

structure CRel (c : ACtx) (fr : Frame) : Prop where
  fn : fr.fn = c.fn
  d1 : c.defers = []
  d2 : fr.defers = []
  k1 : c.kind = .normal
  k2 : fr.kind = .normal
  r1 : c.round = none
  r2 : fr.roundOf = none

/-- A frame that runs, or waits. -/
structure RunRel (φ : Emb) (a : AFrame) (fr : Frame) : Prop where
  ctx : CRel a.ctx fr
  m1 : a.ctx.mode = .run
  m2 : fr.mode = .run
  slots : TmRel φ a.ctx.nt a.tmps fr.tmps
  todo : TRel a.todo fr.todo

theorem RunRel.mono {φ ψ : Emb} (h : φ.le ψ) {a : AFrame} {fr : Frame} (r : RunRel φ a fr) : RunRel ψ a fr := ⟨r.ctx, r.m1, r.m2, r.slots.mono h, r.todo⟩

inductive StkRel (φ : Emb) : List AFrame → List Frame → Prop
  | nil : StkRel φ [] []
  | cons (a : AFrame) (fr : Frame) (s : List AFrame) (cs : List Frame) : RunRel φ a fr → StkRel φ s cs → StkRel φ (a :: s) (fr :: cs)

theorem StkRel.mono {φ ψ : Emb} (h : φ.le ψ) : ∀ {s : List AFrame} {cs : List Frame}, StkRel φ s cs → StkRel ψ s cs
  | _, _, .nil => .nil
  | _, _, .cons a fr s cs h1 h2 => .cons a fr s cs (h1.mono h) (StkRel.mono h h2)

theorem exit_rel {id : Nat} : ∀ {k : List AItem} {k' : List Item} {j : List AItem}, ItsRel k k' → exitA id k = some j → ∃ j', exitTo id k' = some j' ∧ ItsRel j j'
  | _, _, j, .nil, h => by cases h
  | _, _, j, .cons x y k k' hx hk, h => by
    cases hx with
    | inBlock n =>
      unfold exitA at h
      unfold exitTo
      cases hb : Nat.beq n id
      · rw [hb, cond_false] at h
        obtain ⟨j', h1, h2⟩ := exit_rel hk h
        refine ⟨j', ?_, h2⟩
        have : n ≠ id := Nat.ne_of_beq_eq_false hb
        simpa [this] using h1
      · rw [hb, cond_true] at h
        cases h
        have : n = id := Nat.eq_of_beq_eq_true hb
        exact ⟨k', by simp [this], hk⟩
    | code c => exact (exit_rel hk (show exitA id k = some j from h) :)
    | inLoop c => exact (exit_rel hk (show exitA id k = some j from h) :)
    | inScope c => exact (exit_rel hk (show exitA id k = some j from h) :)

theorem goto_rel {l : Nat} : ∀ {k : List AItem} {k' : List Item} {j : List AItem}, ItsRel k k' → gotoA l k = some j → ∃ j', gotoIn l k' = some j' ∧ ItsRel j j'
  | _, _, j, .nil, h => by cases h
  | _, _, j, .cons x y k k' hx hk, h => by
    cases hx with
    | inScope body =>
      unfold gotoA at h
      unfold gotoIn
      split at h
      · rename_i rest hr
        cases h
        rw [hr]
        exact ⟨_, rfl, .cons _ _ _ _ (.code rest) (.cons _ _ _ _ (.inScope body) hk)⟩
      · rename_i hr
        rw [hr]
        exact goto_rel hk h
    | code c => exact (goto_rel hk (show gotoA l k = some j from h) :)
    | inLoop c => exact (goto_rel hk (show gotoA l k = some j from h) :)
    | inBlock n => exact (goto_rel hk (show gotoA l k = some j from h) :)

theorem enter_rel {V : Env} (hV : EnvOk V) {f : FuncId} {args : List AV} {us : Array Value} {φ : Emb} {fr : AFrame} (hv : VsRel φ args us.toList) (h : enterA V f args .normal = some fr) :
    RunRel φ fr (Frame.enter V.P f us .normal) ∧ ∃ fn, V.P.funcs[f]? = some fn ∧ fn.body.isSome = true := by
  unfold enterA at h
  split at h
  · rename_i fn hfn
    have hP := fns_of hV hfn
    split at h
    · rename_i c hc
      unfold enterB at h
      split at h
      · rename_i tmps ht
        cases h
        have hlen : args.length = us.size := by rw [hv.length, Array.length_toList]
        refine ⟨⟨⟨rfl, rfl, rfl, rfl, rfl, rfl, rfl⟩, rfl, rfl, ⟨?_, fun t v hg => ?_⟩, ?_⟩, fn, hP, by rw [hc]; rfl⟩
        · show (us ++ Array.replicate _ undef).size = Nat.max fn.ntmps args.length
          rw [Array.size_append, Array.size_replicate, hP, hlen]
          simp only [Option.map_some, Option.getD_some]
          have : Nat.max fn.ntmps us.size = max fn.ntmps us.size := rfl
          omega
        · have := setsFrom_get ht t
          rw [this] at hg
          by_cases hin : 0 ≤ t ∧ t < 0 + args.length
          · rw [if_pos hin] at hg
            obtain ⟨u, h1, h2⟩ := hv.get _ _ hg
            refine ⟨u, ?_, h2⟩
            show (us ++ Array.replicate _ undef)[t]? = _
            rw [Array.getElem?_append_left (by omega), ← Array.getElem?_toList]
            exact h1
          · rw [if_neg hin, T.get_nil] at hg; cases hg
        · show TRel [.code c] [.code (((V.P.funcs[f]?).bind (·.body)).getD _)]
          rw [hP, Option.bind_some, hc]
          exact .plain _ _ (.cons _ _ _ _ (.code c) .nil)
      · cases h
    · cases h
  · cases h

section
variable {V : Env} (hV : EnvOk V) {N : Nat} {φ : Emb} {M : Mem} {w : World} (R : Rep V.P V.G N φ M w) {tm : T AV} {tmps : Array Value} (hs : Slots φ tm tmps)
include hV R hs

theorem results_list : ∀ {rs : List ResultVar} {vs : List AV}, resultsA V tm M rs = some vs → ∃ us : List Value, (rs.mapM fun (r : ResultVar) => match r with
      | .tmp t => (pure (tmps.getD t undef) : Sem Value)
      | .cell a t => do loadVar t (← asAddr (tmps.getD a undef))).run V.P w = .ok us w ∧ VsRel φ vs us
  | [], vs, h => by cases h; exact ⟨[], rfl, .nil⟩
  | r :: l, vs, h => by
    unfold resultsA at h
    split at h
    · rename_i v hv
      split at h
      · rename_i vs' hvs
        cases h
        obtain ⟨us, h1, h2⟩ := results_list hvs
        obtain ⟨u, q1, q2⟩ : ∃ u, (match r with
            | .tmp t => (pure (tmps.getD t undef) : Sem Value)
            | .cell a t => do loadVar t (← asAddr (tmps.getD a undef))).run V.P w = .ok u w ∧ VRel φ v u := by
          unfold result1 at hv
          split at hv
          · rename_i t
            obtain ⟨u, hu, hr⟩ := hs _ _ hv
            exact ⟨u, by simp [hu], hr⟩
          · rename_i a t
            split at hv
            · rename_i b i hb
              obtain ⟨u, hu, hr⟩ := hs _ _ hb
              obtain ⟨lc, hl, rfl⟩ := hr.ptr_inv
              obtain ⟨q, q1, q2⟩ := loadA_ok hV R hl hv
              refine ⟨q, ?_, q2⟩
              have : tmps.getD a undef = .pointer (some (lc.addr i)) := by
                rw [Array.getD_eq_getD_getElem?, hu]; rfl
              simp only [this, asAddr, Sem.run_bind, Sem.run_pure, Result.andThen_ok]
              exact q1
            · cases hv
        refine ⟨u :: us, ?_, .cons _ _ _ _ q2 h2⟩
        rw [List.mapM_cons]
        rw [bind_ok q1, bind_ok h1]
        rfl
      · cases h
    · cases h

theorem result_ok {f : FuncId} {v : AV} (h : resultA V f tm M = some v) : ∃ fn u, V.P.funcs[f]? = some fn ∧ (results fn tmps).run V.P w = .ok u w ∧ VRel φ v u := by
  unfold resultA at h
  split at h
  · rename_i fn hfn
    have hP := fns_of hV hfn
    have key : ∀ vs, resultsA V tm M fn.results.toList = some vs → ∃ us : List Value, (results fn tmps).run V.P w = .ok (if h : us.toArray.size = 1 then us.toArray[0] else .tuple us.toArray) w ∧ VsRel φ vs us := by
      intro vs hvs
      obtain ⟨us, h1, h2⟩ := results_list hV R hs hvs
      refine ⟨us, ?_, h2⟩
      unfold results
      rw [Array.mapM_eq_mapM_toList]
      have : ∀ (s : Sem (List Value)), s.run V.P w = .ok us w → (List.toArray <$> s).run V.P w = .ok us.toArray w := by
        intro s hs
        show (s.bind _).run V.P w = _
        have := bind_ok (P := V.P) (f := fun x => (pure (List.toArray x) : Sem (Array Value))) hs
        exact this
      exact (bind_ok (this _ h1)).trans rfl
    split at h
    · rename_i v' hvs
      cases h
      obtain ⟨us, h1, h2⟩ := key _ hvs
      cases h2 with
      | cons _ u _ us' q1 q2 =>
        cases q2
        exact ⟨fn, u, hP, h1, q1⟩
    · rename_i vs hne hvs
      cases h
      obtain ⟨us, h1, h2⟩ := key _ hvs
      refine ⟨fn, .tuple us.toArray, hP, ?_, .tuple _ _ (by simpa using h2)⟩
      rw [h1, dif_neg]
      intro e
      have hl := h2.length
      rw [List.size_toArray] at e
      match vs, hl, hne with
      | [x], _, hne => exact hne x rfl
      | [], hl, _ => simp at hl; omega
      | _ :: _ :: _, hl, _ => simp at hl; omega
    · cases h
  · cases h

end
end Go.Proofs.Ytcpffiihdnecjaa.Ev
