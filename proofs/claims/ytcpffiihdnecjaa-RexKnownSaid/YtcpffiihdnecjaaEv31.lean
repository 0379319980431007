/- The evaluator: the abstract machine goes where the machine goes. -/
import Derived.Test.YtcpffiihdnecjaaEv30
namespace Go.Proofs.Ytcpffiihdnecjaa.Ev
set_option linter.unusedSectionVars false
set_option linter.unusedSimpArgs false
set_option linter.unusedVariables false
open Go

/-- A frame at the top: it runs, or returns. -/
inductive TopRel (φ : Emb) (a : AFrame) (fr : Frame) : Prop
  | run : RunRel φ a fr → TopRel φ a fr
  | ret : CRel a.ctx fr → a.ctx.mode = .ret → fr.mode = .returning → TmRel φ a.ctx.nt a.tmps fr.tmps → TopRel φ a fr

noncomputable def bot : Frame → List Frame → FuncId
  | fr, [] => fr.fn
  | _, c :: cs => bot c cs

/-- The machine comes to a state. -/
noncomputable def Reach (V : Env) (N : Nat) (φ : Emb) (M : Mem) (w : World) (fr : Frame) (cfs cs : List Frame) (s : St) : Prop :=
  ∃ φ' fr' cfs' w', Steps V.P (Go.lone fr (cfs ++ cs) w) (Go.lone fr' (cfs' ++ cs) w') ∧ TopRel φ' s.fr fr' ∧ StkRel φ' s.stk cfs' ∧ Rep V.P V.G N φ' s.mem w' ∧
    Ext φ M φ' ∧ Kept N w w' ∧ Unm φ M s.mem ∧ bot fr' cfs' = bot fr cfs

theorem bot_same {a b : Frame} (h : a.fn = b.fn) (cfs : List Frame) : bot a cfs = bot b cfs := by
  cases cfs with
  | nil => exact h
  | cons c cs => rfl

theorem Reach.after {V : Env} {N : Nat} {φ φ1 : Emb} {M M1 : Mem} {w w1 : World} {fr fr1 : Frame} {cfs cs : List Frame} {s : St} (h : Steps V.P (Go.lone fr (cfs ++ cs) w) (Go.lone fr1 (cfs ++ cs) w1))
    (e : Ext φ M φ1) (k : Kept N w w1) (u : Unm φ M M1) (hf : fr1.fn = fr.fn) (r : Reach V N φ1 M1 w1 fr1 cfs cs s) : Reach V N φ M w fr cfs cs s := by
  obtain ⟨φ', fr', cfs', w', h1, h2, h3, h4, h5, h6, h7, h8⟩ := r
  exact ⟨φ', fr', cfs', w', h.trans h1, h2, h3, h4, e.trans u.1 h5, k.trans h6, u.trans e h7, h8.trans (bot_same hf cfs)⟩

theorem Reach.step {V : Env} {N : Nat} {φ : Emb} {M : Mem} {w : World} {fr fr1 : Frame} {cfs cs : List Frame} {s : St} (h : step V.P (Go.lone fr (cfs ++ cs) w) = .next (Go.lone fr1 (cfs ++ cs) w))
    (hf : fr1.fn = fr.fn) (r : Reach V N φ M w fr1 cfs cs s) : Reach V N φ M w fr cfs cs s := .after (.one h) (.refl _ _) (.refl _ _) (.refl _ _) hf r

theorem put_rel {φ : Emb} {nt : Nat} {tm tm' : T AV} {tmps : Array Value} {d : Option Tmp} {v : AV} {u : Value} (hp : putT nt tm d v = some tm') (h : TmRel φ nt tm tmps) (hv : VRel φ v u) : TmRel φ nt tm' (putV tmps d u) := by
  obtain ⟨h1, h2⟩ := putT_spec hp
  refine ⟨by rw [putV_size]; exact h.1, fun t x hx => ?_⟩
  rw [h1] at hx
  cases d with
  | none =>
    rw [if_neg (by simp)] at hx
    exact h.2 t x hx
  | some d =>
    rw [putV_some]
    by_cases e : d = t
    · subst e
      rw [if_pos rfl] at hx
      cases hx
      have := h2 d rfl
      exact ⟨u, Array.getElem?_setIfInBounds_self_of_lt (by rw [h.1]; exact this), hv⟩
    · rw [if_neg (fun h => e (Option.some.inj h))] at hx
      rw [Array.getElem?_setIfInBounds_ne e]
      exact h.2 t x hx

theorem CRel.on {c : ACtx} {fr : Frame} (h : CRel c fr) (tmps : Array Value) (todo : List Item) : CRel c (on fr tmps todo) := ⟨h.fn, h.d1, h.d2, h.k1, h.k2, h.r1, h.r2⟩

section
variable {V : Env} (hS : Sure V) {N : Nat}
include hS

/-- An operation that comes to a value. -/
theorem goes_step {φ : Emb} {M M' : Mem} {w : World} {fr : Frame} (hm : fr.mode = .run) {tmps : Array Value} {ops : Array Oper} {i : Nat} {l : List Nat} {k : List Item} {o : Oper} {v : AV} (cs : List Frame) (ho : ops[i]? = some o)
    (hw : Region.wanted o (yielded ops tmps) = true) (h : Goes V.P V.G N φ M w (execOp (ev tmps) o) v M') :
    ∃ φ' u w', Steps V.P (Go.lone (on fr tmps (.inRegion ops (i :: l) :: k)) cs w) (Go.lone (on fr (putV tmps o.dst u) (.inRegion ops l :: k)) cs w') ∧ VRel φ' v u ∧ Rep V.P V.G N φ' M' w' ∧ Ext φ M φ' ∧ Kept N w w' ∧ Unm φ M M' := by
  rcases h with ⟨φ', u, w', nx, h1, h2, h3⟩ | ⟨f, us, h1, h2⟩
  · exact ⟨φ', u, w', .one (step_val hm ho hw h1 h2), h3⟩
  · obtain ⟨e, w', fr', ⟨φ', u, rfl, h3⟩, h4, _, h5⟩ := h2 (on fr tmps (.inRegion ops (i :: l) :: k) :: cs)
    refine ⟨φ', u, w', .head (step_enter hm ho hw h1) (Steps.trans h4 (.one ?_)), h3⟩
    rw [← on_finish fr tmps ops i l k o ho u]
    exact step_leave_returned h5

theorem range_cons {i n : Nat} (h : i < n) : List.range' i (n - i) = i :: List.range' (i + 1) (n - (i + 1)) := by
  rw [show n - i = (n - (i + 1)) + 1 by omega, List.range'_succ]

theorem opsA_ok {ops : Array Oper} {c : ACtx} {fr : Frame} (hc : CRel c fr) (hm : fr.mode = .run) (hcm : c.mode = .run) {stk : List AFrame} {k : List AItem} {k' : List Item} (hk : ItsRel k k') {s' : St} {cfs cs : List Frame} :
    ∀ (l : List Oper) (i : Nat) (tm : T AV) (M : Mem) (φ : Emb) (w : World) (tmps : Array Value), l = ops.toList.drop i → opsA V c stk ops.toList k l tm M = some s' → Rep V.P V.G N φ M w → TmRel φ c.nt tm tmps → StkRel φ stk cfs →
      Reach V N φ M w (on fr tmps (.inRegion ops (List.range' i (ops.size - i)) :: k')) cfs cs s'
  | [], i, tm, M, φ, w, tmps, hl, h, R, ht, hst => by
    unfold opsA goA at h
    cases h
    have hi : ops.size ≤ i := by
      have := congrArg List.length hl
      rw [List.length_drop, show ops.toList.length = ops.size from Array.length_toList] at this
      have h0 : ([] : List Oper).length = 0 := rfl
      rw [h0] at this
      omega
    rw [show ops.size - i = 0 by omega]
    refine .step (on_regionEnd hm) rfl ⟨φ, _, cfs, w, .refl _ _, .run ⟨hc.on tmps k', hcm, hm, ht, .plain _ _ hk⟩, hst, R, .refl _ _, .refl _ _, .refl _ _, rfl⟩
  | o :: rest, i, tm, M, φ, w, tmps, hl, h, R, ht, hst => by
    have hi : i < ops.size := by
      rcases Nat.lt_or_ge i ops.size with h' | h'
      · exact h'
      · rw [List.drop_eq_nil_of_le (by simpa using h')] at hl; cases hl
    have ho : ops[i]? = some o := by
      have : (ops.toList.drop i)[0]? = some o := by rw [← hl]; rfl
      rw [List.getElem?_drop, Nat.add_zero, Array.getElem?_toList] at this
      exact this
    have hrest : rest = ops.toList.drop (i + 1) := by
      rw [← List.drop_drop, ← hl]; rfl
    rw [range_cons hS hi]
    have hsl : Slots φ tm tmps := ht.2
    unfold opsA at h
    split at h
    · rename_i hw
      have hw' := wanted_ok hsl hw
      split at h
      · rename_i v M' hop
        split at h
        · rename_i tm' hput
          obtain ⟨φ', u, w', h1, h2, h3, h4, h5, h6⟩ := goes_step hS hm (cfs ++ cs) ho hw' (opA_val hS R hsl.ops hop)
          exact .after h1 h4 h5 h6 rfl (opsA_ok hc hm hcm hk rest (i + 1) tm' M' φ' w' _ hrest h h3 (put_rel hput (ht.mono h4.1) h2) (hst.mono h4.1))
        · cases h
      · rename_i r hr
        unfold afterA at h
        split at h
        · rename_i f args M' hop
          obtain ⟨rfl, us, hus, hrun⟩ := opA_enter hS R hsl.ops hop
          unfold mkSt at h
          split at h
          · rename_i fr1 hfr1
            cases h
            obtain ⟨e1, fn, e2, e3⟩ := enter_rel hS.env hus hfr1
            have hstep := step_enter (cs := cfs ++ cs) (l := List.range' (i + 1) (ops.size - (i + 1))) (k := k') hm ho hw' (hrun fn e2 e3)
            refine ⟨φ, _, on fr tmps (.inRegion ops (i :: List.range' (i + 1) (ops.size - (i + 1))) :: k') :: cfs, w, .one hstep, .run e1, .cons _ _ _ _ ⟨hc.on _ _, hcm, hm, ht, ?_⟩ hst, R, .refl _ _, .refl _ _, .refl _ _, rfl⟩
            rw [← range_cons hS hi, hl]
            exact .ops ops i k k' hk
          · cases h
        · cases h
    · rename_i hw
      have hw' := wanted_ok hsl hw
      split at h
      · rename_i tm' hput
        exact .step (step_not hm ho hw') rfl (opsA_ok hc hm hcm hk rest (i + 1) tm' M φ w _ hrest h R (put_rel hput ht (undef_rel φ)) hst)
      · cases h
    · cases h

theorem leaveA_ok {c : ACtx} {tm : T AV} {todo : List AItem} {stk : List AFrame} {M : Mem} {jump : Option Code} {s' : St} (hr : c.round = none) (h : leaveA V c tm todo stk M jump = some s') :
    s' = ⟨⟨{ c with mode := .ret }, tm, todo⟩, stk, M⟩ ∧ (jump = none ∨ jump = some .ret) := by
  unfold leaveA at h
  split at h
  · split at h
    · cases h; exact ⟨rfl, .inl rfl⟩
    · cases h; exact ⟨rfl, .inr rfl⟩
    · cases h
  · rename_i h'; rw [hr] at h'; cases h'

theorem code_ok {c : ACtx} {fr : Frame} (hc : CRel c fr) (hm : fr.mode = .run) (hcm : c.mode = .run) {stk : List AFrame} {tm : T AV} {M : Mem} {φ : Emb} {w : World} {tmps : Array Value} (R : Rep V.P V.G N φ M w)
    (ht : TmRel φ c.nt tm tmps) {cfs cs : List Frame} (hst : StkRel φ stk cfs) {s' : St} : ∀ (x : Code) (k : List AItem) (k' : List Item), ItsRel k k' → codeA V c tm stk M x k = some s' →
      Reach V N φ M w (on fr tmps (.code x :: k')) cfs cs s' := by
  have hsl : Slots φ tm tmps := ht.2
  have here : ∀ (k : List AItem) (k' : List Item), ItsRel k k' → goA c tm stk M k = some s' → Reach V N φ M w (on fr tmps k') cfs cs s' := by
    intro k k' hk h
    unfold goA at h
    cases h
    exact ⟨φ, _, cfs, w, .refl _ _, .run ⟨hc.on tmps k', hcm, hm, ht, .plain _ _ hk⟩, hst, R, .refl _ _, .refl _ _, .refl _ _, rfl⟩
  intro x
  induction x with
  | skip => intro k k' hk h; exact .step (on_skip hm) rfl (here k k' hk h)
  | region id ops draw =>
    intro k k' hk h
    cases draw with
    | false =>
      refine .step (on_region hm) rfl ?_
      have := opsA_ok (cs := cs) hS hc hm hcm hk ops.toList 0 tm M φ w tmps rfl h R ht hst
      rw [Nat.sub_zero] at this
      rw [List.range_eq_range']
      exact this
    | true =>
      obtain ⟨tm', M', φ', tmps', w', rfl, h1, h2, h3, h4, h5, h6⟩ := draw_ok hS.env R ht h hm (cfs ++ cs) k' id
      exact .after h1 h4 h5 h6 rfl ⟨φ', _, cfs, w', .refl _ _, .run ⟨hc.on tmps' k', hcm, hm, h3, .plain _ _ hk⟩, hst.mono h4.1, h2, .refl _ _, .refl _ _, .refl _ _, rfl⟩
  | seq a b iha ihb =>
    intro k k' hk h
    exact .step (on_seq hm) rfl (iha (.code b :: k) (.code b :: k') (.cons _ _ _ _ (.code b) hk) h)
  | cond o a b iha ihb =>
    intro k k' hk h
    have h : (match evalA tm o with
      | some (.bool t) => (match t with | true => codeA V c tm stk M a k | false => codeA V c tm stk M b k)
      | _ => none) = some s' := h
    split at h
    · rename_i t ht'
      have hb : ev tmps o = .bool t := by
        have := hsl.ops _ _ ht'
        generalize ev tmps o = u at this
        cases this
        rfl
      refine .step (on_cond hm hb) rfl ?_
      cases t
      · exact ihb k k' hk h
      · exact iha k k' hk h
    · cases h
  | block id b ih => intro k k' hk h; exact .step (on_block hm) rfl (ih _ _ (.cons _ _ _ _ (.inBlock id) hk) h)
  | loop body ih => intro k k' hk h; exact .step (on_loop hm) rfl (ih _ _ (.cons _ _ _ _ (.inLoop body) hk) h)
  | rangeFunc f params assign body _ _ =>
    intro k k' hk h
    have h : (none : Option St) = some s' := h
    cases h
  | exit id =>
    intro k k' hk h
    have h : exitOr V c tm (.code (.exit id) :: k) stk M (exitA id k) (.exit id) = some s' := h
    unfold exitOr at h
    split at h
    · rename_i j hj
      obtain ⟨j', h1, h2⟩ := exit_rel hk hj
      exact .step (on_exit hm h1) rfl (here j j' h2 h)
    · obtain ⟨_, h1 | h1⟩ := leaveA_ok hS hc.r1 h <;> cases h1
  | scope body ih => intro k k' hk h; exact .step (on_scope hm) rfl (ih _ _ (.cons _ _ _ _ (.inScope body) hk) h)
  | label l => intro k k' hk h; exact .step (on_label hm) rfl (here k k' hk h)
  | goto l =>
    intro k k' hk h
    have h : exitOr V c tm (.code (.goto l) :: k) stk M (gotoA l k) (.goto l) = some s' := h
    unfold exitOr at h
    split at h
    · rename_i j hj
      obtain ⟨j', h1, h2⟩ := goto_rel hk hj
      exact .step (on_goto hm h1) rfl (here j j' h2 h)
    · obtain ⟨_, h1 | h1⟩ := leaveA_ok hS hc.r1 h <;> cases h1
  | ret =>
    intro k k' hk h
    have h : leaveA V c tm (.code .ret :: k) stk M (some .ret) = some s' := h
    obtain ⟨rfl, _⟩ := leaveA_ok hS hc.r1 h
    exact .step (on_ret hm hc.r2) rfl ⟨φ, _, cfs, w, .refl _ _, .ret ⟨hc.fn, hc.d1, hc.d2, hc.k1, hc.k2, hc.r1, hc.r2⟩ rfl rfl ht, hst, R, .refl _ _, .refl _ _, .refl _ _, rfl⟩
  | refuse why =>
    intro k k' hk h
    have h : (none : Option St) = some s' := h
    cases h

theorem run1_ok {c : ACtx} {fr : Frame} (hc : CRel c fr) (hm : fr.mode = .run) (hcm : c.mode = .run) {stk : List AFrame} {tm : T AV} {M : Mem} {φ : Emb} {w : World} {tmps : Array Value} (R : Rep V.P V.G N φ M w)
    (ht : TmRel φ c.nt tm tmps) {cfs cs : List Frame} (hst : StkRel φ stk cfs) {s' : St} {todo : List AItem} {todo' : List Item} (htodo : TRel todo todo') (h : runA1 V c tm stk M todo = some s') :
    Reach V N φ M w (on fr tmps todo') cfs cs s' := by
  have here : ∀ (k : List AItem) (k' : List Item), ItsRel k k' → goA c tm stk M k = some s' → Reach V N φ M w (on fr tmps k') cfs cs s' := by
    intro k k' hk h
    unfold goA at h
    cases h
    exact ⟨φ, _, cfs, w, .refl _ _, .run ⟨hc.on tmps k', hcm, hm, ht, .plain _ _ hk⟩, hst, R, .refl _ _, .refl _ _, .refl _ _, rfl⟩
  cases htodo with
  | plain _ _ hk =>
    cases hk with
    | nil =>
      have h : leaveA V c tm [] stk M none = some s' := h
      obtain ⟨rfl, _⟩ := leaveA_ok hS hc.r1 h
      exact .step (on_leave hm hc.r2) rfl ⟨φ, _, cfs, w, .refl _ _, .ret ⟨hc.fn, hc.d1, hc.d2, hc.k1, hc.k2, hc.r1, hc.r2⟩ rfl rfl ht, hst, R, .refl _ _, .refl _ _, .refl _ _, rfl⟩
    | cons x y k k' hx hk =>
      cases hx with
      | code x => exact code_ok hS hc hm hcm R ht hst x k k' hk h
      | inBlock n => exact .step (on_inBlock hm) rfl (here k k' hk h)
      | inScope b => exact .step (on_inScope hm) rfl (here k k' hk h)
      | inLoop body => exact .step (on_inLoop hm) rfl (code_ok hS hc hm hcm R ht hst body _ _ (.cons _ _ _ _ (.inLoop body) hk) h)
  | ops ops i k k' hk => exact opsA_ok hS hc hm hcm hk _ i tm M φ w tmps rfl h R ht hst

/-- A frame's end: its caller goes on. -/
theorem finish_ok {M : Mem} {φ : Emb} {a a' : AFrame} {fr : Frame} (r : RunRel φ a fr) {v : AV} {u : Value} (hv : VRel φ v u) (h : finishA V M v a = some a') : RunRel φ a' (fr.finish u) := by
  obtain ⟨hc, h1, h2, h3, h4⟩ := r
  obtain ⟨c, tm, todo⟩ := a
  unfold finishA at h
  generalize ht : fr.todo = todo' at h4
  cases h4 with
  | plain _ _ hk =>
    cases hk with
    | nil => cases h
    | cons x y k k' hx hk => cases hx <;> cases h
  | ops ops i k k' hk =>
    by_cases hi : i < ops.size
    · have hd : ops.toList.drop i = ops[i] :: ops.toList.drop (i + 1) := by
        rw [List.drop_eq_getElem_cons (by simpa using hi)]
        simp
      rw [hd] at h
      simp only [putFr] at h
      split at h
      · rename_i tm' hput
        cases h
        have : fr = on fr fr.tmps (.inRegion ops (List.range' i (ops.size - i)) :: k') := by
          obtain ⟨⟩ := fr
          simp only at ht
          subst ht
          rfl
        rw [this, range_cons hS hi, on_finish fr fr.tmps ops i _ k' ops[i] (by simp [hi])]
        exact ⟨hc.on _ _, h1, h2, put_rel hput h3 hv, .ops ops (i + 1) k k' hk⟩
      · cases h
    · rw [List.drop_eq_nil_of_le (by simpa using hi)] at h
      cases h

theorem putFr_fn {c : ACtx} {tm : Option (T AV)} {todo : List AItem} {a' : AFrame} (h : putFr c tm todo = some a') : a'.ctx = c := by
  unfold putFr at h
  split at h
  · cases h; rfl
  · cases h

theorem finPlan_fn {c : ACtx} {tm : Option (T AV)} {M : Mem} {all re : List Oper} {ss : List PStep} {k : List AItem} {a' : AFrame} (h : finPlan V c tm M all re ss k = some a') : a'.ctx = c := by
  unfold finPlan at h
  split at h
  · revert h
    generalize recheckA V _ M _ _ = b
    cases b
    · intro h; cases h
    · intro h; cases h; rfl
  · cases h

theorem finish_fn {M : Mem} {a a' : AFrame} {v : AV} (h : finishA V M v a = some a') : a'.ctx.fn = a.ctx.fn := by
  obtain ⟨c, tm, todo⟩ := a
  simp only [finishA] at h
  split at h
  · rw [putFr_fn hS h]
  · rw [finPlan_fn hS h]
  · cases h; rfl
  · cases h

/-- The run of a frame, up to its end. -/
theorem run_ok : ∀ (n : Nat) (s : St) (v : AV) (M' : Mem), runA V n s = some (v, M') → ∀ (φ : Emb) (w : World) (fr : Frame) (cfs cs : List Frame), TopRel φ s.fr fr → StkRel φ s.stk cfs → Rep V.P V.G N φ s.mem w →
    ∃ φ' u w' fr', Steps V.P (Go.lone fr (cfs ++ cs) w) (Go.lone fr' cs w') ∧ fr'.fn = bot fr cfs ∧ fr'.leaving V.P w' (.returned u) ∧ VRel φ' v u ∧ Rep V.P V.G N φ' M' w' ∧ Ext φ s.mem φ' ∧ Kept N w w' ∧ Unm φ s.mem M'
  | 0, _, _, _, h => by cases h
  | n + 1, ⟨⟨c, tm, todo⟩, stk, M⟩, v, M', h => by
    intro φ w fr cfs cs htop hst R
    have next : ∀ s', Reach V N φ M w fr cfs cs s' → runA V n s' = some (v, M') → ∃ φ' u w' fr', Steps V.P (Go.lone fr (cfs ++ cs) w) (Go.lone fr' cs w') ∧ fr'.fn = bot fr cfs ∧ fr'.leaving V.P w' (.returned u) ∧
        VRel φ' v u ∧ Rep V.P V.G N φ' M' w' ∧ Ext φ M φ' ∧ Kept N w w' ∧ Unm φ M M' := by
      intro s' ⟨φ1, fr1, cfs1, w1, h1, h2, h3, h4, h5, h6, h7, h8⟩ hr
      obtain ⟨φ2, u, w2, fr2, g1, g2, g3, g4, g5, g6, g7, g8⟩ := run_ok n s' v M' hr φ1 w1 fr1 cfs1 cs h2 h3 h4
      exact ⟨φ2, u, w2, fr2, h1.trans g1, g2.trans h8, g3, g4, g5, h5.trans h7.1 g6, h6.trans g7, h7.trans h5 g8⟩
    have h : stepA V (runA V n) ⟨⟨c, tm, todo⟩, stk, M⟩ = some (v, M') := h
    unfold stepA at h
    simp only at h
    cases htop with
    | run r =>
      obtain ⟨hc, h1, h2, h3, h4⟩ := r
      simp only at hc h1 h2 h3 h4 hst R
      rw [h1] at h
      simp only at h
      unfold nextA at h
      split at h
      · rename_i s' hs'
        have : fr = on fr fr.tmps fr.todo := by obtain ⟨⟩ := fr; rfl
        refine next s' ?_ h
        rw [this]
        exact run1_ok hS hc h2 h1 R h3 hst h4 hs'
      · cases h
    | ret hc h1 h2 h3 =>
      simp only at hc h1 h2 h3 hst R
      rw [h1] at h
      simp only at h
      unfold retA at h
      rw [hc.d1] at h
      simp only at h
      split at h
      · rename_i v' hv'
        obtain ⟨fn, u, q1, q2, q3⟩ := result_ok hS.env R h3.2 hv'
        have hleave : fr.leaving V.P w (.returned u) := ⟨h2, hc.d2, hc.k2, fn, by rw [hc.fn]; exact q1, q2⟩
        cases hst with
        | nil =>
          cases h
          exact ⟨φ, u, w, fr, .refl _ _, rfl, hleave, q3, R, .refl _ _, .refl _ _, .refl _ _⟩
        | cons a fr1 s1 cfs1 hr1 hst1 =>
          simp only at h
          unfold nextA at h
          split at h
          · rename_i s' hs'
            unfold doRetA at hs'
            rw [hc.k1] at hs'
            simp only at hs'
            unfold mkSt at hs'
            split at hs'
            · rename_i a' ha'
              cases hs'
              have hfin := finish_ok hS hr1 q3 ha'
              refine next _ ⟨φ, fr1.finish u, cfs1, w, .one (step_leave_returned hleave), .run hfin, hst1, R, .refl _ _, .refl _ _, .refl _ _, ?_⟩ h
              have : (fr1.finish u).fn = fr1.fn := by rw [hfin.ctx.fn, hr1.ctx.fn]; exact finish_fn hS ha'
              exact bot_same this cfs1
            · cases hs'
          · cases h
      · cases h

/-- What the abstract machine answers is what the call comes to. -/
theorem ev_ok {n : Nat} {f : FuncId} {args : List AV} {us : Array Value} {v : AV} {M M' : Mem} {φ : Emb} {w : World} (R : Rep V.P V.G N φ M w) (hv : VsRel φ args us.toList) (h : evA V n f args M = some (v, M')) :
    Calls V.P f us w (Ends V.P V.G N φ M w v M') := by
  intro cs
  unfold evA at h
  split at h
  · rename_i fr hfr
    obtain ⟨r, _⟩ := enter_rel hS.env hv hfr
    obtain ⟨φ', u, w', fr', h1, h2, h3, h4, h5, h6, h7, h8⟩ := run_ok hS n _ v M' h φ w _ [] cs (.run r) .nil R
    exact ⟨.returned u, w', fr', ⟨φ', u, rfl, h4, h5, h6, h7, h8⟩, h1, h2, h3⟩
  · cases h

end
end Go.Proofs.Ytcpffiihdnecjaa.Ev
