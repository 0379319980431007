/- The evaluator: frames, what is to do. -/
import Derived.Test.YtcpffiihdnecjaaEv30
namespace Go.Proofs.Ytcpffiihdnecjaa.Ev
set_option linter.unusedSectionVars false
set_option linter.unusedSimpArgs false
set_option linter.unusedVariables false
open Go

inductive ItRel : AItem → Item → Prop
  | code (c : Code) : ItRel (.code c) (.code c)
  | inBlock (n : Nat) : ItRel (.inBlock n) (.inBlock n)
  | inLoop (c : Code) : ItRel (.inLoop c) (.inLoop c)
  | inScope (c : Code) : ItRel (.inScope c) (.inScope c)
  | beginRound : ItRel .beginRound .beginRound

inductive ItsRel : List AItem → List Item → Prop
  | nil : ItsRel [] []
  | cons (x : AItem) (y : Item) (k : List AItem) (k' : List Item) : ItRel x y → ItsRel k k' → ItsRel (x :: k) (y :: k')

/-- The deferred calls that rounds have gathered. -/
inductive DefsRel (φ : Emb) : List ADef → List Deferred → Prop
  | nil : DefsRel φ [] []
  | cons (b : Nat) (l : Loc) (ds : List ADef) (es : List Deferred) : φ b = some l → DefsRel φ ds es → DefsRel φ (.collected b :: ds) ({ target := .collected l.blk, args := #[] } :: es)

theorem DefsRel.mono {φ ψ : Emb} (h : φ.le ψ) : ∀ {ds : List ADef} {es : List Deferred}, DefsRel φ ds es → DefsRel ψ ds es
  | _, _, .nil => .nil
  | _, _, .cons b l ds es hb k => .cons b l ds es (h _ _ hb) (DefsRel.mono h k)

theorem DefsRel.append {φ : Emb} : ∀ {ds : List ADef} {es : List Deferred}, DefsRel φ ds es → ∀ {ds' : List ADef} {es' : List Deferred}, DefsRel φ ds' es' → DefsRel φ (ds ++ ds') (es ++ es')
  | _, _, .nil, _, _, h => h
  | _, _, .cons b l ds es hb k, _, _, h => .cons b l _ _ hb (DefsRel.append k h)

structure CRel (φ : Emb) (c : ACtx) (fr : Frame) : Prop where
  fn : fr.fn = c.fn
  defers : DefsRel φ c.defers fr.defers
  k1 : c.kind = .normal
  k2 : fr.kind = .normal
  round : (c.round = none ∧ fr.roundOf = none) ∨ ∃ b l, c.round = some b ∧ φ b = some l ∧ fr.roundOf = some l.blk

theorem CRel.mono {φ ψ : Emb} (h : φ.le ψ) {c : ACtx} {fr : Frame} (r : CRel φ c fr) : CRel ψ c fr :=
  ⟨r.fn, r.defers.mono h, r.k1, r.k2, r.round.imp id fun ⟨b, l, h1, h2, h3⟩ => ⟨b, l, h1, h _ _ h2, h3⟩⟩

/-- A frame that runs: its slots, what is to do. -/
inductive Run (V : Env) (φ : Emb) (M : Mem) (lo nt : Nat) (tm : T AV) : List AItem → Array Value → List Item → Prop
  | plain (k : List AItem) (tmps : Array Value) (k' : List Item) : TmRel φ nt tm tmps → ItsRel k k' → Run V φ M lo nt tm k tmps k'
  | ops (ops : Array Oper) (i : Nat) (k : List AItem) (tmps : Array Value) (k' : List Item) : TmRel φ nt tm tmps → ItsRel k k' →
      Run V φ M lo nt tm (.ops ops.toList (ops.toList.drop i) :: k) tmps (.inRegion ops (List.range' i (ops.size - i)) :: k')
  | plan (ops : Array Oper) (pre post done : List Ent) (D l : List Nat) (kd : Nat → Option Nat) (k : List AItem) (tmps : Array Value) (k' : List Item) : Plan ops (pre ++ post) → (∀ y ∈ pre, y ∈ done) →
      PR V ops pre φ M nt tm tmps D kd → Valid ops D l → (∀ x ∈ pre, x.2.1 ∉ D → ∀ b, kd x.2.1 = some b → lo ≤ b) → ItsRel k k' →
      Run V φ M lo nt tm (.plan ops.toList (mkPlanGo done post) :: k) tmps (.inRegion ops l :: k')
  | endRange (b : Nat) (l : Loc) (k : List AItem) (tmps : Array Value) (k' : List Item) : φ b = some l → TmRel φ nt tm tmps → ItsRel k k' → Run V φ M lo nt tm (.endRangeFunc b :: k) tmps (.endRangeFunc l.blk :: k')

/-- A frame that waits for a call's end. -/
inductive Wait (V : Env) (φ : Emb) (M : Mem) (lo hi nt : Nat) (tm : T AV) : List AItem → Array Value → List Item → Prop
  | ops (ops : Array Oper) (i : Nat) (k : List AItem) (tmps : Array Value) (k' : List Item) : i < ops.size → TmRel φ nt tm tmps → ItsRel k k' →
      Wait V φ M lo hi nt tm (.ops ops.toList (ops.toList.drop i) :: k) tmps (.inRegion ops (List.range' i (ops.size - i)) :: k')
  | plan (ops : Array Oper) (pre : List Ent) (x : Ent) (post done : List Ent) (D l : List Nat) (kd : Nat → Option Nat) (k : List AItem) (tmps : Array Value) (k' : List Item) : Plan ops (pre ++ x :: post) → x.2.2.1 = false →
      (∀ y ∈ pre, y ∈ done) → PRq ops pre φ nt tm tmps D kd (PendW V ops.toList φ M nt tm) → Valid ops D (x.2.1 :: l) → (∀ y ∈ pre, y.2.1 ∉ D → ∀ b, kd y.2.1 = some b → lo ≤ b ∧ b < hi) → ItsRel k k' →
      Wait V φ M lo hi nt tm (.plan ops.toList (mkPlanGo done (x :: post)) :: k) tmps (.inRegion ops (x.2.1 :: l) :: k')
  | inRange (b : Nat) (l : Loc) (k : List AItem) (tmps : Array Value) (k' : List Item) : φ b = some l → TmRel φ nt tm tmps → ItsRel k k' → Wait V φ M lo hi nt tm (.inRangeFunc b :: k) tmps (.inRangeFunc l.blk :: k')

structure RunRel (V : Env) (φ : Emb) (M : Mem) (lo : Nat) (a : AFrame) (fr : Frame) : Prop where
  ctx : CRel φ a.ctx fr
  m1 : a.ctx.mode = .run
  m2 : fr.mode = .run
  run : Run V φ M lo a.ctx.nt a.tmps a.todo fr.tmps fr.todo

structure WaitRel (V : Env) (φ : Emb) (M : Mem) (lo hi : Nat) (a : AFrame) (fr : Frame) : Prop where
  ctx : CRel φ a.ctx fr
  m1 : a.ctx.mode = .run
  m2 : fr.mode = .run
  wait : Wait V φ M lo hi a.ctx.nt a.tmps a.todo fr.tmps fr.todo

/-- More is known, of what lies from b on alone. -/
noncomputable def ExtB (β : Nat) (φ φ' : Emb) (M M' : Mem) : Prop := φ.le φ' ∧ M.next ≤ M'.next ∧ ∀ b, b < β → φ b = none → φ' b = none ∧ M'.heap.get b = M.heap.get b
theorem ExtB.refl (β : Nat) (φ : Emb) (M : Mem) : ExtB β φ φ M M := ⟨φ.le_refl, Nat.le_refl _, fun _ _ h => ⟨h, rfl⟩⟩
theorem ExtB.trans {β : Nat} {φ φ1 φ2 : Emb} {M M1 M2 : Mem} (h : ExtB β φ φ1 M M1) (k : ExtB β φ1 φ2 M1 M2) : ExtB β φ φ2 M M2 :=
  ⟨Emb.le_trans h.1 k.1, Nat.le_trans h.2.1 k.2.1, fun b hb hn => let ⟨a1, a2⟩ := h.2.2 b hb hn; let ⟨b1, b2⟩ := k.2.2 b hb a1; ⟨b1, b2.trans a2⟩⟩
theorem ExtB.weaken {β β' : Nat} {φ φ' : Emb} {M M' : Mem} (h : ExtB β φ φ' M M') (hb : β' ≤ β) : ExtB β' φ φ' M M' := ⟨h.1, h.2.1, fun b hlt hn => h.2.2 b (by omega) hn⟩
theorem ExtB.of {β : Nat} {φ φ' : Emb} {M M' : Mem} (h : Ext φ M φ') (u : Unm φ M M') (hb : β ≤ M.next) : ExtB β φ φ' M M' :=
  ⟨h.1, u.1, fun b hlt hn => ⟨h.2 b (by omega) hn, u.2 b (by omega) hn⟩⟩
theorem ExtB.back {φ φ' : Emb} {M M' : Mem} (h : ExtB M.next φ φ' M M') : Ext φ M φ' ∧ Unm φ M M' :=
  ⟨⟨h.1, fun b hb hn => (h.2.2 b hb hn).1⟩, ⟨h.2.1, fun b hb hn => (h.2.2 b hb hn).2⟩⟩

theorem WaitRel.later {V : Env} {φ φ' : Emb} {M M' : Mem} {lo hi : Nat} {a : AFrame} {fr : Frame} (r : WaitRel V φ M lo hi a fr) (h : ExtB hi φ φ' M M') : WaitRel V φ' M' lo hi a fr := by
  obtain ⟨h1, h2, h3, h4⟩ := r
  refine ⟨h1.mono h.1, h2, h3, ?_⟩
  obtain ⟨c, tm, todo⟩ := a
  simp only at h4 ⊢
  generalize fr.todo = todo' at h4 ⊢
  generalize fr.tmps = tmps at h4 ⊢
  cases h4 with
  | ops ops i k _ k' hi' ht hk => exact .ops ops i k _ k' hi' (ht.mono h.1) hk
  | plan ops pre x post done D l kd k _ k' g1 g2 g3 g4 g5 g6 g7 =>
    refine .plan ops pre x post done D l kd k _ k' g1 g2 g3 (g4.turn h.1 fun y hy hyD hq => ?_) g5 g6 g7
    exact hq.later fun b r hb hn _ => h.2.2 b (g6 y hy hyD b hb).2 hn
  | inRange b l k _ k' hb ht hk => exact .inRange b l k _ k' (h.1 _ _ hb) (ht.mono h.1) hk

inductive StkRel (V : Env) (φ : Emb) (M : Mem) (β0 : Nat) : Nat → List AFrame → List Frame → Prop
  | nil (β : Nat) : β0 ≤ β → StkRel V φ M β0 β [] []
  | cons (β β' : Nat) (a : AFrame) (fr : Frame) (s : List AFrame) (cs : List Frame) : WaitRel V φ M β' β a fr → β' ≤ β → StkRel V φ M β0 β' s cs → StkRel V φ M β0 β (a :: s) (fr :: cs)

theorem StkRel.le {V : Env} {φ : Emb} {M : Mem} {β0 : Nat} : ∀ {β : Nat} {s : List AFrame} {cs : List Frame}, StkRel V φ M β0 β s cs → β0 ≤ β
  | _, _, _, .nil _ h => h
  | _, _, _, .cons _ _ _ _ _ _ _ h k => Nat.le_trans (StkRel.le k) h

theorem StkRel.later {V : Env} {φ φ' : Emb} {M M' : Mem} {β0 : Nat} : ∀ {β : Nat} {s : List AFrame} {cs : List Frame}, StkRel V φ M β0 β s cs → ExtB β φ φ' M M' → StkRel V φ' M' β0 β s cs
  | _, _, _, .nil β h, _ => .nil β h
  | _, _, _, .cons β β' a fr s cs h1 h2 h3, h => .cons β β' a fr s cs (h1.later h) h2 (StkRel.later h3 (h.weaken h2))

theorem exit_rel {id : Nat} : ∀ {k : List AItem} {k' : List Item} {j : List AItem}, ItsRel k k' → exitA id k = some j → ∃ j', exitTo id k' = some j' ∧ ItsRel j j'
  | _, _, j, .nil, h => by cases h
  | _, _, j, .cons x y k k' hx hk, h => by
    cases hx with
    | inBlock n =>
      unfold exitA at h
      unfold exitTo
      cases hb : Nat.beq n id
      · rw [hb, cond_false] at h
        obtain ⟨j', h1, h2⟩ := exit_rel hk h
        refine ⟨j', ?_, h2⟩
        have : n ≠ id := Nat.ne_of_beq_eq_false hb
        simpa [this] using h1
      · rw [hb, cond_true] at h
        cases h
        have : n = id := Nat.eq_of_beq_eq_true hb
        exact ⟨k', by simp [this], hk⟩
    | code c => exact (exit_rel hk (show exitA id k = some j from h) :)
    | inLoop c => exact (exit_rel hk (show exitA id k = some j from h) :)
    | inScope c => exact (exit_rel hk (show exitA id k = some j from h) :)
    | beginRound => exact (exit_rel hk (show exitA id k = some j from h) :)

theorem goto_rel {l : Nat} : ∀ {k : List AItem} {k' : List Item} {j : List AItem}, ItsRel k k' → gotoA l k = some j → ∃ j', gotoIn l k' = some j' ∧ ItsRel j j'
  | _, _, j, .nil, h => by cases h
  | _, _, j, .cons x y k k' hx hk, h => by
    cases hx with
    | inScope body =>
      unfold gotoA at h
      unfold gotoIn
      split at h
      · rename_i rest hr
        cases h
        rw [hr]
        exact ⟨_, rfl, .cons _ _ _ _ (.code rest) (.cons _ _ _ _ (.inScope body) hk)⟩
      · rename_i hr
        rw [hr]
        exact goto_rel hk h
    | code c => exact (goto_rel hk (show gotoA l k = some j from h) :)
    | inLoop c => exact (goto_rel hk (show gotoA l k = some j from h) :)
    | inBlock n => exact (goto_rel hk (show gotoA l k = some j from h) :)
    | beginRound => exact (goto_rel hk (show gotoA l k = some j from h) :)

theorem exit_none {id : Nat} : ∀ {k : List AItem} {k' : List Item}, ItsRel k k' → exitA id k = none → exitTo id k' = none
  | _, _, .nil, _ => rfl
  | _, _, .cons x y k k' hx hk, h => by
    cases hx with
    | inBlock n =>
      unfold exitA at h
      unfold exitTo
      cases hb : Nat.beq n id
      · rw [hb, cond_false] at h
        have : n ≠ id := Nat.ne_of_beq_eq_false hb
        simpa [this] using exit_none hk h
      · rw [hb, cond_true] at h
        cases h
    | code c => exact (exit_none hk (show exitA id k = none from h) :)
    | inLoop c => exact (exit_none hk (show exitA id k = none from h) :)
    | inScope c => exact (exit_none hk (show exitA id k = none from h) :)
    | beginRound => exact (exit_none hk (show exitA id k = none from h) :)

theorem goto_none {l : Nat} : ∀ {k : List AItem} {k' : List Item}, ItsRel k k' → gotoA l k = none → gotoIn l k' = none
  | _, _, .nil, _ => rfl
  | _, _, .cons x y k k' hx hk, h => by
    cases hx with
    | inScope body =>
      unfold gotoA at h
      unfold gotoIn
      split at h
      · cases h
      · rename_i hr
        rw [hr]
        exact goto_none hk h
    | code c => exact (goto_none hk (show gotoA l k = none from h) :)
    | inLoop c => exact (goto_none hk (show gotoA l k = none from h) :)
    | inBlock n => exact (goto_none hk (show gotoA l k = none from h) :)
    | beginRound => exact (goto_none hk (show gotoA l k = none from h) :)

theorem enter_rel {V : Env} (hV : EnvOk V) {f : FuncId} {args : List AV} {us : Array Value} {φ : Emb} {M : Mem} {lo : Nat} {fr : AFrame} (hv : VsRel φ args us.toList) (h : enterA V f args .normal = some fr) :
    RunRel V φ M lo fr (Frame.enter V.P f us .normal) ∧ ∃ fn, V.P.funcs[f]? = some fn ∧ fn.body.isSome = true := by
  unfold enterA at h
  split at h
  · rename_i fn hfn
    have hP := fns_of hV hfn
    split at h
    · rename_i c hc
      unfold enterB at h
      split at h
      · rename_i tmps ht
        cases h
        have hlen : args.length = us.size := by rw [hv.length, Array.length_toList]
        refine ⟨⟨⟨rfl, .nil, rfl, rfl, .inl ⟨rfl, rfl⟩⟩, rfl, rfl, ?_⟩, fn, hP, by rw [hc]; rfl⟩
        have hslots : TmRel φ (Nat.max fn.ntmps args.length) tmps (us ++ Array.replicate (((V.P.funcs[f]?).map (·.ntmps)).getD 0 - us.size) undef) := by
          refine ⟨?_, fun t v hg => ?_⟩
          · show (us ++ Array.replicate _ undef).size = Nat.max fn.ntmps args.length
            rw [Array.size_append, Array.size_replicate, hP, hlen]
            simp only [Option.map_some, Option.getD_some]
            have : Nat.max fn.ntmps us.size = max fn.ntmps us.size := rfl
            omega
          · have := setsFrom_get ht t
            rw [this] at hg
            by_cases hin : 0 ≤ t ∧ t < 0 + args.length
            · rw [if_pos hin] at hg
              obtain ⟨u, h1, h2⟩ := hv.get _ _ hg
              refine ⟨u, ?_, h2⟩
              show (us ++ Array.replicate _ undef)[t]? = _
              rw [Array.getElem?_append_left (by omega), ← Array.getElem?_toList]
              exact h1
            · rw [if_neg hin, T.get_nil] at hg; cases hg
        show Run V φ M lo (Nat.max fn.ntmps args.length) tmps [.code c] (us ++ Array.replicate (((V.P.funcs[f]?).map (·.ntmps)).getD 0 - us.size) undef) [.code (((V.P.funcs[f]?).bind (·.body)).getD _)]
        rw [hP, Option.bind_some, hc]
        rw [hP] at hslots
        exact .plain _ _ _ hslots (.cons _ _ _ _ (.code c) .nil)
      · cases h
    · cases h
  · cases h

section
variable {V : Env} (hV : EnvOk V) {N : Nat} {φ : Emb} {M : Mem} {w : World} (R : Rep V.P V.G N φ M w) {tm : T AV} {tmps : Array Value} (hs : Slots φ tm tmps)
include hV R hs

theorem results_list : ∀ {rs : List ResultVar} {vs : List AV}, resultsA V tm M rs = some vs → ∃ us : List Value, (rs.mapM fun (r : ResultVar) => match r with
      | .tmp t => (pure (tmps.getD t undef) : Sem Value)
      | .cell a t => do loadVar t (← asAddr (tmps.getD a undef))).run V.P w = .ok us w ∧ VsRel φ vs us
  | [], vs, h => by cases h; exact ⟨[], rfl, .nil⟩
  | r :: l, vs, h => by
    unfold resultsA at h
    split at h
    · rename_i v hv
      split at h
      · rename_i vs' hvs
        cases h
        obtain ⟨us, h1, h2⟩ := results_list hvs
        obtain ⟨u, q1, q2⟩ : ∃ u, (match r with
            | .tmp t => (pure (tmps.getD t undef) : Sem Value)
            | .cell a t => do loadVar t (← asAddr (tmps.getD a undef))).run V.P w = .ok u w ∧ VRel φ v u := by
          unfold result1 at hv
          split at hv
          · rename_i t
            obtain ⟨u, hu, hr⟩ := hs _ _ hv
            exact ⟨u, by simp [hu], hr⟩
          · rename_i a t
            split at hv
            · rename_i b i hb
              obtain ⟨u, hu, hr⟩ := hs _ _ hb
              obtain ⟨lc, hl, rfl⟩ := hr.ptr_inv
              obtain ⟨q, q1, q2⟩ := loadA_ok hV R hl hv
              refine ⟨q, ?_, q2⟩
              have : tmps.getD a undef = .pointer (some (lc.addr i)) := by
                rw [Array.getD_eq_getD_getElem?, hu]; rfl
              simp only [this, asAddr, Sem.run_bind, Sem.run_pure, Result.andThen_ok]
              exact q1
            · cases hv
        refine ⟨u :: us, ?_, .cons _ _ _ _ q2 h2⟩
        rw [List.mapM_cons]
        rw [bind_ok q1, bind_ok h1]
        rfl
      · cases h
    · cases h

theorem result_ok {f : FuncId} {v : AV} (h : resultA V f tm M = some v) : ∃ fn u, V.P.funcs[f]? = some fn ∧ (results fn tmps).run V.P w = .ok u w ∧ VRel φ v u := by
  unfold resultA at h
  split at h
  · rename_i fn hfn
    have hP := fns_of hV hfn
    have key : ∀ vs, resultsA V tm M fn.results.toList = some vs → ∃ us : List Value, (results fn tmps).run V.P w = .ok (if h : us.toArray.size = 1 then us.toArray[0] else .tuple us.toArray) w ∧ VsRel φ vs us := by
      intro vs hvs
      obtain ⟨us, h1, h2⟩ := results_list hV R hs hvs
      refine ⟨us, ?_, h2⟩
      unfold results
      rw [Array.mapM_eq_mapM_toList]
      have : ∀ (s : Sem (List Value)), s.run V.P w = .ok us w → (List.toArray <$> s).run V.P w = .ok us.toArray w := by
        intro s hs
        show (s.bind _).run V.P w = _
        have := bind_ok (P := V.P) (f := fun x => (pure (List.toArray x) : Sem (Array Value))) hs
        exact this
      exact (bind_ok (this _ h1)).trans rfl
    split at h
    · rename_i v' hvs
      cases h
      obtain ⟨us, h1, h2⟩ := key _ hvs
      cases h2 with
      | cons _ u _ us' q1 q2 =>
        cases q2
        exact ⟨fn, u, hP, h1, q1⟩
    · rename_i vs hne hvs
      cases h
      obtain ⟨us, h1, h2⟩ := key _ hvs
      refine ⟨fn, .tuple us.toArray, hP, ?_, .tuple _ _ (by simpa using h2)⟩
      rw [h1, dif_neg]
      intro e
      have hl := h2.length
      rw [List.size_toArray] at e
      match vs, hl, hne with
      | [x], _, hne => exact hne x rfl
      | [], hl, _ => simp at hl; omega
      | _ :: _ :: _, hl, _ => simp at hl; omega
    · cases h
  · cases h

end
theorem run_getObj {P : Program} {w : World} {r : Nat} {o : Obj} (h : w.heap[r]? = some o) (ho : ∀ c t f, o ≠ .cells c t f) : (getObj r).run P w = .ok o w := by
  unfold getObj
  simp only [Sem.run, h]

theorem run_setObj {P : Program} {w : World} {r : Nat} {o o' : Obj} (h : w.heap[r]? = some o) (ho : ∀ c t f, o ≠ .cells c t f) : (setObj r o').run P w = .ok () (wput w r o') := by
  unfold setObj
  simp only [Sem.run, h]
  cases o <;> first
    | rfl
    | exact absurd rfl (ho _ _ _)

theorem run_getLoop {P : Program} {w : World} {r : Nat} {L : Loop} (h : w.heap[r]? = some (.loop L)) : (Instr.getLoop r).run P w = .ok L w := by
  simp only [Instr.getLoop, Sem.run_bind, run_getObj h (fun _ _ _ e => by cases e), Result.andThen_ok, Sem.run_pure]

theorem run_newObj {P : Program} {w : World} {o : Obj} : (newObj o).run P w = .ok w.heap.size (wpush w o) := rfl

theorem setPairs_rel {φ : Emb} {nt : Nat} : ∀ {ps : List Tmp} {args : List AV} {us : List Value} {tm tm' : T AV} {tmps : Array Value}, VsRel φ args us → ps.length = us.length → TmRel φ nt tm tmps → setPairs nt (ps.zip args) tm = some tm' →
    TmRel φ nt tm' ((ps.zip us).foldl (fun (tmps : Array Value) (p : Tmp × Value) => tmps.setIfInBounds p.1 p.2) tmps)
  | [], _, _, tm, tm', tmps, _, _, ht, h => by
    simp only [List.zip_nil_left, setPairs, Option.some.injEq] at h
    subst h
    simpa using ht
  | p :: ps, _, _, tm, tm', tmps, .nil, hl, ht, h => by simp at hl
  | p :: ps, _, _, tm, tm', tmps, .cons x u xs us hx hxs, hl, ht, h => by
    rw [List.zip_cons_cons] at h
    unfold setPairs at h
    simp only [List.zip_cons_cons, List.foldl_cons]
    cases hb : Nat.blt p nt
    · rw [hb, cond_false] at h
      have hge : nt ≤ p := blt_false hb
      refine setPairs_rel hxs (by simpa using hl) ⟨by rw [Array.size_setIfInBounds]; exact ht.1, fun t v hv => ?_⟩ h
      obtain ⟨q, hq, hr⟩ := ht.2 t v hv
      have := (Array.getElem?_eq_some_iff.1 hq).1
      rw [ht.1] at this
      exact ⟨q, by rw [Array.getElem?_setIfInBounds_ne (fun e => by subst e; exact absurd this (Nat.not_lt.2 hge))]; exact hq, hr⟩
    · rw [hb, cond_true] at h
      split at h
      · rename_i tm1 h1
        refine setPairs_rel hxs (by simpa using hl) ⟨by rw [Array.size_setIfInBounds]; exact ht.1, fun t v hv => ?_⟩ h
        rw [T.set_get _ _ _ _ h1] at hv
        by_cases e : t = p
        · rw [if_pos e] at hv
          cases hv
          subst e
          exact ⟨u, Array.getElem?_setIfInBounds_self_of_lt (by rw [ht.1]; exact blt_true hb), hx⟩
        · rw [if_neg e] at hv
          obtain ⟨q, hq, hr⟩ := ht.2 t v hv
          exact ⟨q, by rw [Array.getElem?_setIfInBounds_ne (fun h => e h.symm)]; exact hq, hr⟩
      · cases h

end Go.Proofs.Ytcpffiihdnecjaa.Ev
