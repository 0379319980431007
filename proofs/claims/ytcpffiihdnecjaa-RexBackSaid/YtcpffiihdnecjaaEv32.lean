/- The evaluator: the abstract machine goes where the machine goes. -/
import Derived.Test.YtcpffiihdnecjaaEv31
namespace Go.Proofs.Ytcpffiihdnecjaa.Ev
set_option linter.unusedSectionVars false
set_option linter.unusedSimpArgs false
set_option linter.unusedVariables false
open Go

/-- A frame at the top: it runs, or returns. -/
inductive TopRel (V : Env) (φ : Emb) (M : Mem) (lo : Nat) (a : AFrame) (fr : Frame) : Prop
  | run : RunRel V φ M lo a fr → TopRel V φ M lo a fr
  | ret : CRel φ a.ctx fr → a.ctx.mode = .ret → fr.mode = .returning → TmRel φ a.ctx.nt a.tmps fr.tmps → TopRel V φ M lo a fr

noncomputable def bot : Frame → List Frame → FuncId
  | fr, [] => fr.fn
  | _, c :: cs => bot c cs

/-- The machine comes to a state. -/
noncomputable def Reach (V : Env) (N β0 β : Nat) (φ : Emb) (M : Mem) (w : World) (fr : Frame) (cfs cs : List Frame) (s : St) : Prop :=
  ∃ φ' fr' cfs' w' β', Steps V.P (Go.lone fr (cfs ++ cs) w) (Go.lone fr' (cfs' ++ cs) w') ∧ TopRel V φ' s.mem β' s.fr fr' ∧ StkRel V φ' s.mem β0 β' s.stk cfs' ∧ Rep V.P V.G N φ' s.mem w' ∧
    ExtB β φ φ' M s.mem ∧ β' ≤ s.mem.next ∧ Kept N w w' ∧ bot fr' cfs' = bot fr cfs

theorem bot_same {a b : Frame} (h : a.fn = b.fn) (cfs : List Frame) : bot a cfs = bot b cfs := by
  cases cfs with
  | nil => exact h
  | cons c cs => rfl

theorem Reach.after {V : Env} {N β0 β : Nat} {φ φ1 : Emb} {M M1 : Mem} {w w1 : World} {fr fr1 : Frame} {cfs cs : List Frame} {s : St} (h : Steps V.P (Go.lone fr (cfs ++ cs) w) (Go.lone fr1 (cfs ++ cs) w1))
    (e : ExtB β φ φ1 M M1) (k : Kept N w w1) (hf : fr1.fn = fr.fn) (r : Reach V N β0 β φ1 M1 w1 fr1 cfs cs s) : Reach V N β0 β φ M w fr cfs cs s := by
  obtain ⟨φ', fr', cfs', w', β', h1, h2, h3, h4, h5, h6, h7, h8⟩ := r
  exact ⟨φ', fr', cfs', w', β', h.trans h1, h2, h3, h4, e.trans h5, h6, k.trans h7, h8.trans (bot_same hf cfs)⟩

theorem Reach.step {V : Env} {N β0 β : Nat} {φ : Emb} {M : Mem} {w : World} {fr fr1 : Frame} {cfs cs : List Frame} {s : St} (h : step V.P (Go.lone fr (cfs ++ cs) w) = .next (Go.lone fr1 (cfs ++ cs) w))
    (hf : fr1.fn = fr.fn) (r : Reach V N β0 β φ M w fr1 cfs cs s) : Reach V N β0 β φ M w fr cfs cs s := .after (.one h) (.refl _ _ _) (.refl _ _) hf r

theorem put_rel {φ : Emb} {nt : Nat} {tm tm' : T AV} {tmps : Array Value} {d : Option Tmp} {v : AV} {u : Value} (hp : putT nt tm d v = some tm') (h : TmRel φ nt tm tmps) (hv : VRel φ v u) : TmRel φ nt tm' (putV tmps d u) := by
  obtain ⟨h1, h2⟩ := putT_spec hp
  refine ⟨by rw [putV_size]; exact h.1, fun t x hx => ?_⟩
  rw [h1] at hx
  cases d with
  | none =>
    rw [if_neg (by simp)] at hx
    exact h.2 t x hx
  | some d =>
    rw [putV_some]
    by_cases e : d = t
    · subst e
      rw [if_pos rfl] at hx
      cases hx
      have := h2 d rfl
      exact ⟨u, Array.getElem?_setIfInBounds_self_of_lt (by rw [h.1]; exact this), hv⟩
    · rw [if_neg (fun h => e (Option.some.inj h))] at hx
      rw [Array.getElem?_setIfInBounds_ne e]
      exact h.2 t x hx

theorem CRel.on {φ : Emb} {c : ACtx} {fr : Frame} (h : CRel φ c fr) (tmps : Array Value) (todo : List Item) : CRel φ c (on fr tmps todo) := ⟨h.fn, h.defers, h.k1, h.k2, h.round⟩

section
variable {V : Env} (hS : Sure V) {N : Nat}
include hS

/-- An operation that comes to a value. -/
theorem goes_step {φ : Emb} {M M' : Mem} {w : World} {fr : Frame} (hm : fr.mode = .run) {tmps : Array Value} {ops : Array Oper} {i : Nat} {l : List Nat} {k : List Item} {o : Oper} {v : AV} (cs : List Frame) (ho : ops[i]? = some o)
    (hw : Region.wanted o (yielded ops tmps) = true) (h : Goes V.P V.G N φ M w (execOp (ev tmps) o) v M') :
    ∃ φ' u w', Steps V.P (Go.lone (on fr tmps (.inRegion ops (i :: l) :: k)) cs w) (Go.lone (on fr (putV tmps o.dst u) (.inRegion ops l :: k)) cs w') ∧ VRel φ' v u ∧ Rep V.P V.G N φ' M' w' ∧ Ext φ M φ' ∧ Kept N w w' ∧ Unm φ M M' := by
  rcases h with ⟨φ', u, w', nx, h1, h2, h3⟩ | ⟨f, us, h1, h2⟩
  · exact ⟨φ', u, w', .one (step_val hm ho hw h1 h2), h3⟩
  · obtain ⟨e, w', fr', ⟨φ', u, rfl, h3⟩, h4, _, h5⟩ := h2 (on fr tmps (.inRegion ops (i :: l) :: k) :: cs)
    refine ⟨φ', u, w', .head (step_enter hm ho hw h1) (Steps.trans h4 (.one ?_)), h3⟩
    rw [← on_finish fr tmps ops i l k o ho u]
    exact step_leave_returned h5

theorem range_cons {i n : Nat} (h : i < n) : List.range' i (n - i) = i :: List.range' (i + 1) (n - (i + 1)) := by
  rw [show n - i = (n - (i + 1)) + 1 by omega, List.range'_succ]

/-- A state that has been come to. -/
theorem reach_here {φ : Emb} {β0 β : Nat} {c : ACtx} {fr : Frame} (hc : CRel φ c fr) (hm : fr.mode = .run) (hcm : c.mode = .run) {stk : List AFrame} {tm : T AV} {M : Mem} {w : World} {tmps : Array Value} (R : Rep V.P V.G N φ M w)
    (ht : TmRel φ c.nt tm tmps) {cfs cs : List Frame} (hβ : β ≤ M.next) (hst : StkRel V φ M β0 β stk cfs) {s' : St} (k : List AItem) (k' : List Item) (hk : ItsRel k k') (h : goA c tm stk M k = some s') :
    Reach V N β0 β φ M w (on fr tmps k') cfs cs s' := by
  unfold goA at h
  cases h
  exact ⟨φ, _, cfs, w, β, .refl _ _, .run ⟨hc.on tmps k', hcm, hm, .plain _ _ _ ht hk⟩, hst, R, .refl _ _ _, hβ, .refl _ _, rfl⟩

/-- A call is entered. -/
theorem reach_enter {φ : Emb} {β0 β : Nat} {c : ACtx} {fr : Frame} (hc : CRel φ c fr) (hm : fr.mode = .run) (hcm : c.mode = .run) {stk : List AFrame} {tm : T AV} {M : Mem} {w : World} {tmps : Array Value} (R : Rep V.P V.G N φ M w)
    {cfs cs : List Frame} (hβ : β ≤ M.next) (hst : StkRel V φ M β0 β stk cfs) {s' : St} {todo : List AItem} {ops : Array Oper} {i : Nat} {l : List Nat} {k : List Item} {o : Oper} (ho : ops[i]? = some o)
    (hw : Region.wanted o (yielded ops tmps) = true) {f : FuncId} {args : List AV} (he : Enters V.P w φ (execOp (ev tmps) o) f args)
    (hwait : Wait V φ M β M.next c.nt tm todo tmps (.inRegion ops (i :: l) :: k)) (h : mkSt (enterA V f args .normal) (⟨c, tm, todo⟩ :: stk) M = some s') :
    Reach V N β0 β φ M w (on fr tmps (.inRegion ops (i :: l) :: k)) cfs cs s' := by
  obtain ⟨us, hus, hrun⟩ := he
  unfold mkSt at h
  split at h
  · rename_i fr1 hfr1
    cases h
    obtain ⟨e1, fn, e2, e3⟩ := enter_rel (M := M) (lo := M.next) hS.env hus hfr1
    have hstep := step_enter (cs := cfs ++ cs) (l := l) (k := k) hm ho hw (hrun fn e2 e3)
    exact ⟨φ, _, on fr tmps (.inRegion ops (i :: l) :: k) :: cfs, w, M.next, .one hstep, .run e1, .cons _ β _ _ _ _ ⟨hc.on _ _, hcm, hm, hwait⟩ hβ hst, R, .refl _ _ _, Nat.le_refl _, .refl _ _, rfl⟩
  · cases h

/-- A round is entered. -/
theorem reach_round {φ : Emb} {β0 β : Nat} {c : ACtx} {fr : Frame} (hc : CRel φ c fr) (hm : fr.mode = .run) (hcm : c.mode = .run) {stk : List AFrame} {tm : T AV} {M : Mem} {w : World} {tmps : Array Value} (R : Rep V.P V.G N φ M w)
    {cfs cs : List Frame} (hβ : β ≤ M.next) (hst : StkRel V φ M β0 β stk cfs) {s' : St} {todo : List AItem} {ops : Array Oper} {i : Nat} {l : List Nat} {k : List Item} {o : Oper} (ho : ops[i]? = some o)
    (hw : Region.wanted o (yielded ops tmps) = true) {b : Nat} {args : List AV} {us : List Value} (hus : VsRel φ args us) {lc : Loc} (hlc : φ b = some lc) (hrun : (execOp (ev tmps) o).run V.P w = (Instr.yield lc.blk us.toArray).run V.P w)
    (hwait : Wait V φ M β M.next c.nt tm todo tmps (.inRegion ops (i :: l) :: k)) (h : (match M.heap.get b with
      | some (.loop l) => roundA l b args ⟨c, tm, todo⟩ stk M
      | _ => none) = some s') :
    Reach V N β0 β φ M w (on fr tmps (.inRegion ops (i :: l) :: k)) cfs cs s' := by
  split at h
  · rename_i r hr
    obtain ⟨o', ho', hor⟩ := R.blk b lc hlc
    rw [hr] at ho'; cases ho'
    obtain ⟨L, q1, q2, q3, q4, q5, q6, q7, q8, q9⟩ := hor
    unfold roundA at h
    cases hlen : Nat.beq args.length r.params.size
    · rw [hlen] at h; cases h
    · rw [hlen, cond_true] at h
      have hlen := Nat.eq_of_beq_eq_true hlen
      split at h
      · rename_i tm' htm'
        cases h
        have hlu : us.length = L.params.size := by rw [← hus.length, hlen, q6]
        have hy : (Instr.yield lc.blk us.toArray).run V.P w = .ok (.round lc.blk L.fn ((L.params.zip us.toArray).foldl (fun tmps (x : Tmp × Value) => tmps.setIfInBounds x.1 x.2) L.tmps) L.assign L.body) w := by
          have hne : ¬ us.toArray.size ≠ L.params.size := by simp [hlu]
          simp only [Instr.yield, Sem.run_bind, run_getLoop q1, Result.andThen_ok, if_neg hne]
          rfl
        have hslots : TmRel φ r.nt tm' ((L.params.zip us.toArray).foldl (fun tmps (x : Tmp × Value) => tmps.setIfInBounds x.1 x.2) L.tmps) := by
          have := setPairs_rel (ps := L.params.toList) hus (by rw [hlu]; simp) q5 (by rw [q6]; exact htm')
          rw [← Array.foldl_toList, Array.toList_zip]
          simpa using this
        have hstep := step_round (cs := cfs ++ cs) (l := l) (k := k) hm ho hw (hrun.trans hy)
        refine ⟨φ, _, on fr tmps (.inRegion ops (i :: l) :: k) :: cfs, w, M.next, .one hstep, .run ⟨⟨q4, .nil, rfl, rfl, .inr ⟨b, lc, rfl, hlc, rfl⟩⟩, rfl, rfl, ?_⟩, .cons _ β _ _ _ _ ⟨hc.on _ _, hcm, hm, hwait⟩ hβ hst, R, .refl _ _ _, Nat.le_refl _, .refl _ _, rfl⟩
        refine .plain _ _ _ hslots ?_
        rw [← q7, ← q8]
        exact .cons _ _ _ _ (.code _) (.cons _ _ _ _ .beginRound (.cons _ _ _ _ (.code _) .nil))
      · cases h
  · cases h

theorem opsA_ok {β0 β : Nat} {ops : Array Oper} {c : ACtx} {fr : Frame} (hm : fr.mode = .run) (hcm : c.mode = .run) {stk : List AFrame} {k : List AItem} {k' : List Item} (hk : ItsRel k k') {s' : St} {cfs cs : List Frame} :
    ∀ (l : List Oper) (i : Nat) (tm : T AV) (M : Mem) (φ : Emb) (w : World) (tmps : Array Value), CRel φ c fr → l = ops.toList.drop i → opsA V c stk ops.toList k l tm M = some s' → Rep V.P V.G N φ M w → TmRel φ c.nt tm tmps → β ≤ M.next →
      StkRel V φ M β0 β stk cfs → Reach V N β0 β φ M w (on fr tmps (.inRegion ops (List.range' i (ops.size - i)) :: k')) cfs cs s'
  | [], i, tm, M, φ, w, tmps, hc, hl, h, R, ht, hβ, hst => by
    unfold opsA at h
    have hi : ops.size ≤ i := by
      have := congrArg List.length hl
      rw [List.length_drop, show ops.toList.length = ops.size from Array.length_toList] at this
      have h0 : ([] : List Oper).length = 0 := rfl
      rw [h0] at this
      omega
    rw [show ops.size - i = 0 by omega]
    exact .step (on_regionEnd hm) rfl (reach_here hS hc hm hcm R ht hβ hst k k' hk h)
  | o :: rest, i, tm, M, φ, w, tmps, hc, hl, h, R, ht, hβ, hst => by
    have hi : i < ops.size := by
      rcases Nat.lt_or_ge i ops.size with h' | h'
      · exact h'
      · rw [List.drop_eq_nil_of_le (by simpa using h')] at hl; cases hl
    have ho : ops[i]? = some o := by
      have : (ops.toList.drop i)[0]? = some o := by rw [← hl]; rfl
      rw [List.getElem?_drop, Nat.add_zero, Array.getElem?_toList] at this
      exact this
    have hrest : rest = ops.toList.drop (i + 1) := by
      rw [← List.drop_drop, ← hl]; rfl
    rw [range_cons hS hi]
    have hsl : Slots φ tm tmps := ht.2
    unfold opsA at h
    split at h
    · rename_i hw
      have hw' := wanted_ok hsl hw
      split at h
      · rename_i v M' hop
        split at h
        · rename_i tm' hput
          obtain ⟨φ', u, w', h1, h2, h3, h4, h5, h6⟩ := goes_step hS hm (cfs ++ cs) ho hw' (opA_val hS R hsl.ops hop)
          have hE := ExtB.of h4 h6 hβ
          exact .after h1 hE h5 rfl (opsA_ok hm hcm hk rest (i + 1) tm' M' φ' w' _ (hc.mono h4.1) hrest h h3 (put_rel hput (ht.mono h4.1) h2) (Nat.le_trans hβ h6.1) (hst.later hE))
        · cases h
      · rename_i r hr
        unfold afterA at h
        split at h
        · rename_i f args M' hop
          obtain ⟨rfl, he⟩ := opA_enter hS R hsl.ops hop
          refine reach_enter hS hc hm hcm R hβ hst ho hw' he ?_ h
          rw [← range_cons hS hi, hl]
          exact .ops ops i k _ k' hi ht hk
        · rename_i b args M' hop
          obtain ⟨rfl, us, hus, lc, hlc, hrun⟩ := opA_round hS R hsl.ops hop
          refine reach_round hS hc hm hcm R hβ hst ho hw' hus hlc hrun ?_ h
          rw [← range_cons hS hi, hl]
          exact .ops ops i k _ k' hi ht hk
        · cases h
    · rename_i hw
      have hw' := wanted_ok hsl hw
      split at h
      · rename_i tm' hput
        exact .step (step_not hm ho hw') rfl (opsA_ok hm hcm hk rest (i + 1) tm' M φ w _ hc hrest h R (put_rel hput ht (undef_rel φ)) hβ hst)
      · cases h
    · cases h

theorem planA_ok {β0 β : Nat} {ops : Array Oper} {c : ACtx} {fr : Frame} (hm : fr.mode = .run) (hcm : c.mode = .run) {stk : List AFrame} {k : List AItem} {k' : List Item} (hk : ItsRel k k') {s' : St} {cfs cs : List Frame} :
    ∀ (post pre done : List Ent) (tm : T AV) (M : Mem) (kd : Nat → Option Nat) (φ : Emb) (w : World) (tmps : Array Value) (D l : List Nat), CRel φ c fr → Plan ops (pre ++ post) → (∀ y ∈ pre, y ∈ done) →
      planA V c stk ops.toList k (mkPlanGo done post) tm M = some s' → Rep V.P V.G N φ M w → PR V ops pre φ M c.nt tm tmps D kd → Valid ops D l → (∀ x ∈ pre, x.2.1 ∉ D → ∀ b, kd x.2.1 = some b → β ≤ b) → β ≤ M.next →
      StkRel V φ M β0 β stk cfs → Reach V N β0 β φ M w (on fr tmps (.inRegion ops l :: k')) cfs cs s'
  | [], pre, done, tm, M, kd, φ, w, tmps, D, l, hc, hL, hdone, h, R, pr, hv, hbase, hβ, hst => by
    unfold mkPlanGo planA at h
    have hfull : ∀ i, i < ops.size → ∃ x ∈ pre, x.2.1 = i := by
      have := hL.full
      rwa [List.append_nil] at this
    obtain ⟨φ1, tmps1, w1, g1, g2, g3, g4, g5, g6⟩ := catchAll hS.env hL (fun x hx => by simp [hx]) hm (cfs ++ cs) k' hfull l D φ w tmps R pr hv
    have hE : ExtB β φ φ1 M M := ⟨g4, Nat.le_refl _, fun b hb hn => ⟨g5 b hn (fun x hx hD e => by have := hbase x hx hD b e; omega), rfl⟩⟩
    exact .after g1 hE g6 rfl (reach_here hS (hc.mono g4) hm hcm g2 g3 hβ (hst.later hE) k k' hk h)
  | (o, i, f, bits) :: post, pre, done, tm, M, kd, φ, w, tmps, D, l, hc, hL, hdone, h, R, pr, hv, hbase, hβ, hst => by
    have hsp' : pre ++ (o, i, f, bits) :: post = (pre ++ [(o, i, f, bits)]) ++ post := by simp
    have hL' : Plan ops ((pre ++ [(o, i, f, bits)]) ++ post) := by rw [← hsp']; exact hL
    have hsub : ∀ y ∈ pre, y ∈ pre ++ (o, i, f, bits) :: post := fun y hy => by simp [hy]
    have hxL : (o, i, f, bits) ∈ pre ++ (o, i, f, bits) :: post := by simp
    have hne := hL.ne
    have hpw := hL.pair
    rw [List.pairwise_append] at hne hpw
    have hnei : ∀ y ∈ pre, y.2.1 ≠ i := fun y hy => hne.2.2 y hy (o, i, f, bits) (by simp)
    have hdone' : ∀ y ∈ pre ++ [(o, i, f, bits)], y ∈ (o, i, f, bits) :: done := by
      intro y hy
      rcases List.mem_append.1 hy with hy | hy
      · exact List.mem_cons_of_mem _ (hdone y hy)
      · rw [List.mem_singleton.1 hy]; exact List.mem_cons_self
    unfold mkPlanGo planA at h
    simp only at h
    cases f with
    | true =>
      simp only at h
      have hxf : (o, i, true, bits).2.2.1 = true := rfl
      -- the rest, from the state behind this one
      have go : ∀ (kx : Option Nat) (M' : Mem) (tm' : T AV) (va : AV), putT c.nt tm o.dst va = some tm' → ((M' = M ∧ kx = none) ∨ (∃ r, M.push (.row r) = some M' ∧ kx = some M.next)) → Rep V.P V.G N φ M' w →
          (sees ops.toList tm tm' o → Pend V ops.toList φ M' c.nt tm' o kx) → planA V c stk ops.toList k (mkPlanGo ((o, i, true, bits) :: done) post) tm' M' = some s' →
          Reach V N β0 β φ M w (on fr tmps (.inRegion ops l :: k')) cfs cs s' := by
        intro kx M' tm' va hput hM R' hx hrest
        have pr' := addP (x := (o, i, true, bits)) hS.env hL rfl hxf R pr hput kx hM hx
        have hE : ExtB β φ φ M M' := by
          rcases hM with ⟨rfl, _⟩ | ⟨r, hp, _⟩
          · exact .refl _ _ _
          · obtain ⟨p1, p2, p3⟩ := push_spec hp
            exact ⟨φ.le_refl, by omega, fun b hb hn => ⟨hn, by rw [p3, if_neg (by omega)]⟩⟩
        refine .after (.refl _ _) hE (.refl _ _) rfl (planA_ok hm hcm hk post _ _ tm' M' _ φ w tmps D l hc hL' hdone' hrest R' pr' hv (fun y hy hyD b hb' => ?_) (Nat.le_trans hβ hE.2.1) (hst.later hE))
        rcases List.mem_append.1 hy with hy' | hy'
        · simp only [if_neg (hnei y hy')] at hb'
          exact hbase y hy' hyD b hb'
        · rw [List.mem_singleton.1 hy'] at hb'
          simp only [if_true] at hb'
          rcases hM with ⟨_, e⟩ | ⟨_, _, e⟩
          · rw [hb'] at e; cases e
          · rw [hb'] at e; rw [Option.some.inj e]; exact hβ
      split at h
      · rename_i hw
        split at h
        · rename_i v M' hv'
          split at h
          · rename_i tm' hput
            obtain ⟨hget, hdlt⟩ := putT_spec hput
            have hdst : ∀ d, o.dst = some d → d < c.nt ∧ tm'.get d = some v := fun d hd => ⟨hdlt d hd, by rw [hget, if_pos hd]⟩
            unfold viaF at hv'
            split at hv'
            · rename_i v' hv2
              cases hv'
              exact go none _ tm' v hput (.inl ⟨rfl, rfl⟩) R (fun hs => .inr (.inl ⟨by rw [sees_wanted hs]; exact hw, rfl, v, by rw [fA_congr (sees_eval hs)]; exact hv2, hdst⟩)) h
            · rename_i v' r hv2
              obtain ⟨rfl, hp⟩ := rMem_inv hv'
              have R' := R.absPush hp (fA_lone hv2)
              exact go (some M.next) M' tm' v hput (.inr ⟨r, hp, rfl⟩) R' (fun hs => .inr (.inr ⟨by rw [sees_wanted hs]; exact hw, M.next, M, v, r, rfl, by rw [fA_congr (sees_eval hs)]; exact hv2, rfl,
                R.fresh (Nat.le_refl _), by rw [(push_spec hp).2.2, if_pos rfl], hdst⟩)) h
            · cases hv'
          · cases h
        · cases h
      · rename_i hw
        split at h
        · rename_i tm' hput
          obtain ⟨hget, hdlt⟩ := putT_spec hput
          exact go none M tm' undefA hput (.inl ⟨rfl, rfl⟩) R (fun hs => .inl ⟨by rw [sees_wanted hs]; exact hw, rfl, fun d hd => ⟨hdlt d hd, by rw [hget, if_pos hd]⟩⟩) h
        · cases h
      · cases h
    | false =>
      simp only at h
      have hxf : (o, i, false, bits).2.2.1 = false := rfl
      obtain ⟨ho, lv, hinf⟩ := hL.here _ hxL
      simp only at ho
      obtain ⟨φ1, tmps1, w1, D1, l1, g1, R1, pr1, hv1, g5, g6, g7, g8⟩ := catchTo (x := (o, i, false, bits)) hS.env hL hsub rfl hxf hm (cfs ++ cs) k' l D φ w tmps R pr hv
      have hE1 : ExtB β φ φ1 M M := ⟨g5, Nat.le_refl _, fun b hb hn => ⟨g6 b hn (fun x hx hD e => by have := hbase x hx hD b e; omega), rfl⟩⟩
      have hst1 := hst.later hE1
      have hbase1 : ∀ x ∈ pre, x.2.1 ∉ D1 → ∀ b, kd x.2.1 = some b → β ≤ b := fun x hx hD => hbase x hx (fun h => hD (g8 _ h))
      have hxD1 : i ∉ D1 := hv1.2.1
      have hcl := next_closed hS.env hL hsub hxL pr1.closed hv1
      obtain ⟨tmc, hs, hsee⟩ := pend_sees hS.env hL hsub pr1 hxL hxD1 hcl (fun y hy => .inl (hpw.2.2 y hy (o, i, false, bits) (by simp)))
      have hbn : ∀ y ∈ pre, y.2.1 ∉ D1 → ∀ b, kd y.2.1 = some b → b < M.next := by
        intro y hy hyD b hb
        rcases pr1.pend y hy hyD with ⟨_, h, _⟩ | ⟨_, h, _⟩ | ⟨_, b', M0, v, r, h2, _, _, _, h6, _⟩
        · rw [hb] at h; cases h
        · rw [hb] at h; cases h
        · rw [hb] at h2; cases h2
          exact R.top _ _ h6
      refine .after g1 hE1 g7 rfl ?_
      split at h
      · rename_i hw
        have hw' := wanted_ok hs (by rw [sees_wanted hsee]; exact hw)
        split at h
        · rename_i v M' hop
          split at h
          · rename_i tm' hput
            split at h
            · rename_i hre
              rw [← opA_congr (sees_eval hsee)] at hop
              obtain ⟨φ2, u, w2, h1, h2, h3, h4, h5, h6⟩ := goes_step (l := l1) (k := k') hS hm (cfs ++ cs) ho hw' (opA_val hS R1 hs.ops hop)
              have hE2 := ExtB.of h4 h6 hβ
              have prW : PRq ops pre φ2 c.nt tm tmps1 D1 kd (PendW V ops.toList φ2 M' c.nt tm) := pr1.turn h4.1 fun y hy hyD hq => hq.wait.later fun b r hb hn hg => ⟨h4.2 b (R.top _ _ hg) hn, h6.2 b (R.top _ _ hg) hn⟩
              have pr2 := settle (x := (o, i, false, bits)) hS.env hL rfl hdone prW hv1 h2 hput hre
              refine .after h1 hE2 h5 rfl (planA_ok hm hcm hk post _ _ tm' M' kd φ2 w2 _ (i :: D1) l1 (hc.mono (Emb.le_trans g5 h4.1)) hL' hdone' h h3 pr2 hv1.2.2.2 (fun y hy hyD b hb => ?_) (Nat.le_trans hβ h6.1) (hst1.later hE2))
              rcases List.mem_append.1 hy with hy' | hy'
              · exact hbase1 y hy' (fun h => hyD (List.mem_cons_of_mem _ h)) b hb
              · rw [List.mem_singleton.1 hy'] at hyD
                exact absurd List.mem_cons_self hyD
            · cases h
          · cases h
        · rename_i r hr
          unfold afterA at h
          split at h
          · rename_i f args M' hop
            rw [← opA_congr (sees_eval hsee)] at hop
            obtain ⟨rfl, he⟩ := opA_enter hS R1 hs.ops hop
            exact reach_enter hS (hc.mono g5) hm hcm R1 hβ hst1 ho hw' he
              (.plan ops pre (o, i, false, bits) post done D1 l1 kd k _ k' hL hxf hdone (pr1.turn φ1.le_refl fun y hy hyD hq => hq.wait) hv1 (fun y hy hyD b hb => ⟨hbase1 y hy hyD b hb, hbn y hy hyD b hb⟩) hk) h
          · rename_i b args M' hop
            rw [← opA_congr (sees_eval hsee)] at hop
            obtain ⟨rfl, us, hus, lc, hlc, hrun⟩ := opA_round hS R1 hs.ops hop
            exact reach_round hS (hc.mono g5) hm hcm R1 hβ hst1 ho hw' hus hlc hrun
              (.plan ops pre (o, i, false, bits) post done D1 l1 kd k _ k' hL hxf hdone (pr1.turn φ1.le_refl fun y hy hyD hq => hq.wait) hv1 (fun y hy hyD b hb => ⟨hbase1 y hy hyD b hb, hbn y hy hyD b hb⟩) hk) h
          · cases h
      · rename_i hw
        have hw' := wanted_ok hs (by rw [sees_wanted hsee]; exact hw)
        split at h
        · rename_i tm' hput
          have pr2 := settle0 (x := (o, i, false, bits)) hS.env hL rfl pr1 hv1 hput
          refine .step (step_not hm ho hw') rfl (planA_ok hm hcm hk post _ _ tm' M kd φ1 w1 _ (i :: D1) l1 (hc.mono g5) hL' hdone' h R1 pr2 hv1.2.2.2 (fun y hy hyD b hb => ?_) hβ hst1)
          rcases List.mem_append.1 hy with hy' | hy'
          · exact hbase1 y hy' (fun h => hyD (List.mem_cons_of_mem _ h)) b hb
          · rw [List.mem_singleton.1 hy'] at hyD
            exact absurd List.mem_cons_self hyD
        · cases h
      · cases h

/-- A frame's end: its caller goes on. -/
theorem finish_ok {M : Mem} {φ : Emb} {lo hi : Nat} {a a' : AFrame} {fr : Frame} (r : WaitRel V φ M lo hi a fr) {v : AV} {u : Value} (hv : VRel φ v u) (h : finishA V M v a = some a') : RunRel V φ M lo a' (fr.finish u) := by
  obtain ⟨hc, h1, h2, h4⟩ := r
  obtain ⟨c, tm, todo⟩ := a
  unfold finishA at h
  simp only at h4 h1 hc
  generalize ht : fr.todo = todo' at h4
  have hself : ∀ td, fr.todo = td → fr = on fr fr.tmps td := by
    intro td e
    obtain ⟨⟩ := fr
    simp only at e
    subst e
    rfl
  generalize htm : fr.tmps = tmps at h4 hself
  cases h4 with
  | ops ops i k _ k' hi hs hk =>
    have hd : ops.toList.drop i = ops[i] :: ops.toList.drop (i + 1) := by
      rw [List.drop_eq_getElem_cons (by simpa using hi)]
      simp
    rw [hd] at h
    simp only [putFr] at h
    split at h
    · rename_i tm' hput
      cases h
      rw [hself _ ht, range_cons hS hi, on_finish fr tmps ops i _ k' ops[i] (by simp [hi])]
      exact ⟨hc.on _ _, h1, h2, .ops ops (i + 1) k _ k' (put_rel hput hs hv) hk⟩
    · cases h
  | inRange b l k _ k' hb hs hk =>
    simp only [Option.some.injEq] at h
    subst h
    have : fr.finish u = on fr tmps (.endRangeFunc l.blk :: k') := by
      obtain ⟨⟩ := fr
      simp only at ht htm
      subst ht; subst htm
      rfl
    rw [this]
    exact ⟨hc.on _ _, h1, h2, .endRange b l k _ k' hb hs hk⟩
  | plan ops pre x post done D l kd k _ k' g1 g2 g3 g4 g5 g6 hk =>
    obtain ⟨o, i, f, bits⟩ := x
    simp only at g2
    subst g2
    simp only [mkPlanGo, finPlan] at h
    split at h
    · rename_i tm' hput
      cases hre : recheckA V tm' M ops.toList (if false = true then [] else done.filterMap fun (p, j, g, _) => if g && isRead p.op && !bits.testBit j then some p else none)
      · rw [hre] at h; cases h
      · rw [hre, cond_true] at h
        cases h
        have hL' : Plan ops ((pre ++ [(o, i, false, bits)]) ++ post) := by
          have : pre ++ (o, i, false, bits) :: post = (pre ++ [(o, i, false, bits)]) ++ post := by simp
          rw [← this]; exact g1
        obtain ⟨ho, _⟩ := g1.here (o, i, false, bits) (by simp)
        have pr2 := settle (x := (o, i, false, bits)) hS.env g1 rfl g3 g4 g5 hv hput hre
        rw [hself _ ht, on_finish fr tmps ops i l k' o ho]
        refine ⟨hc.on _ _, h1, h2, .plan ops (pre ++ [(o, i, false, bits)]) post ((o, i, false, bits) :: done) (i :: D) l kd k _ k' hL' (fun y hy => ?_) pr2 g5.2.2.2 (fun y hy hyD b hb => ?_) hk⟩
        · rcases List.mem_append.1 hy with hy | hy
          · exact List.mem_cons_of_mem _ (g3 y hy)
          · rw [List.mem_singleton.1 hy]; exact List.mem_cons_self
        · rcases List.mem_append.1 hy with hy' | hy'
          · exact (g6 y hy' (fun h => hyD (List.mem_cons_of_mem _ h)) b hb).1
          · rw [List.mem_singleton.1 hy'] at hyD
            exact absurd List.mem_cons_self hyD
    · cases h

theorem putFr_fn {c : ACtx} {tm : Option (T AV)} {todo : List AItem} {a' : AFrame} (h : putFr c tm todo = some a') : a'.ctx = c := by
  unfold putFr at h
  split at h
  · cases h; rfl
  · cases h

theorem finPlan_fn {c : ACtx} {tm : Option (T AV)} {M : Mem} {all re : List Oper} {ss : List PStep} {k : List AItem} {a' : AFrame} (h : finPlan V c tm M all re ss k = some a') : a'.ctx = c := by
  unfold finPlan at h
  split at h
  · revert h
    generalize recheckA V _ M _ _ = b
    cases b
    · intro h; cases h
    · intro h; cases h; rfl
  · cases h

theorem finish_fn {M : Mem} {a a' : AFrame} {v : AV} (h : finishA V M v a = some a') : a'.ctx.fn = a.ctx.fn := by
  obtain ⟨c, tm, todo⟩ := a
  simp only [finishA] at h
  split at h
  · rw [putFr_fn hS h]
  · rw [finPlan_fn hS h]
  · cases h; rfl
  · cases h

/-- A frame leaves: it returns, or its round ends. -/
theorem leave_ok {φ : Emb} {β0 β : Nat} {c : ACtx} {fr : Frame} (hc : CRel φ c fr) (hm : fr.mode = .run) (hcm : c.mode = .run) {stk : List AFrame} {tm : T AV} {M : Mem} {w : World} {tmps : Array Value} (R : Rep V.P V.G N φ M w)
    (ht : TmRel φ c.nt tm tmps) {cfs cs : List Frame} (hβ : β ≤ M.next) (hst : StkRel V φ M β0 β stk cfs) {s' : St} {todo : List AItem} {todo' : List Item} {jump : Option Code} (hl : LeavesBy todo' jump)
    (h : leaveA V c tm todo stk M jump = some s') : Reach V N β0 β φ M w (on fr tmps todo') cfs cs s' := by
  unfold leaveA at h
  rcases hc.round with ⟨r1, r2⟩ | ⟨b, lc, r1, r2, r3⟩
  · rw [r1] at h
    simp only at h
    have ret : ∀ td td', step V.P (Go.lone (on fr tmps td') (cfs ++ cs) w) = .next (Go.lone { on fr tmps td' with mode := .returning } (cfs ++ cs) w) → s' = ⟨⟨{ c with mode := .ret }, tm, td⟩, stk, M⟩ → Reach V N β0 β φ M w (on fr tmps td') cfs cs s' := by
      intro td td' hs e
      subst e
      exact .step hs rfl ⟨φ, _, cfs, w, β, .refl _ _, .ret ⟨hc.fn, hc.defers, hc.k1, hc.k2, hc.round⟩ rfl rfl ht, hst, R, .refl _ _ _, hβ, .refl _ _, rfl⟩
    cases hl with
    | done => simp only [Option.some.injEq] at h; exact ret todo _ (on_leave hm r2) (by rw [← h, ← r1])
    | ret k => simp only [Option.some.injEq] at h; exact ret todo _ (on_ret hm r2) (by rw [← h, ← r1])
    | exit n k he => cases h
    | goto n k he => cases h
  · rw [r1] at h
    simp only at h
    unfold endRoundA at h
    split at h
    · rename_i r hr
      split at h
      · rename_i M' hM'
        unfold doRetA at h
        rw [hc.k1] at h
        cases hst with
        | nil => cases h
        | cons _ β' a fr1 s1 cfs1 hr1 hle hst1 =>
          simp only at h
          unfold mkSt at h
          split at h
          · rename_i a' ha'
            cases h
            obtain ⟨o', ho', hor⟩ := R.blk b lc r2
            rw [hr] at ho'; cases ho'
            obtain ⟨L, q1, q2, q3, q4, q5, q6, q7, q8, q9⟩ := hor
            obtain ⟨R', k1, u1⟩ := putG_ok (obj' := .loop { L with state := if jump.isNone then .ready else .done, pending := jump }) hS.env R r2 hr (fun _ e => by cases e) (fun _ e => by cases e) q1 hM'
              ⟨_, (wput_upd q1).here, by cases jump <;> rfl, rfl, q4, q5, q6, q7, q8, q9⟩
            have hE : ExtB β φ φ M M' := ExtB.of (.refl _ _) u1 hβ
            have hrun : (Instr.endRound lc.blk jump).run V.P w = .ok (.bool jump.isNone) (wput w lc.blk (.loop { L with state := if jump.isNone then .ready else .done, pending := jump })) := by
              simp only [Instr.endRound, Sem.run_bind, run_getLoop q1, Result.andThen_ok, run_setObj q1 (fun _ _ _ e => by cases e), Sem.run_pure]
            have hst2 := StkRel.cons β β' a fr1 s1 cfs1 hr1 hle hst1
            have hr1' := hr1.later hE
            have hfin := finish_ok hS hr1' (.bool jump.isNone) ha'
            refine ⟨φ, fr1.finish (.bool jump.isNone), cfs1, _, β', .one (on_endRound hm r3 hc.k2 hl hrun), .run hfin, hst1.later (hE.weaken hle), R', hE, Nat.le_trans hle (Nat.le_trans hβ u1.1), k1, ?_⟩
            have : (fr1.finish (.bool jump.isNone)).fn = fr1.fn := by rw [hfin.ctx.fn, hr1.ctx.fn]; exact finish_fn hS ha'
            exact bot_same this cfs1
          · cases h
      · cases h
    · cases h

/-- A loop over a function is entered. -/
theorem range_ok {φ : Emb} {β0 β : Nat} {c : ACtx} {fr : Frame} (hc : CRel φ c fr) (hm : fr.mode = .run) (hcm : c.mode = .run) {stk : List AFrame} {tm : T AV} {M : Mem} {w : World} {tmps : Array Value} (R : Rep V.P V.G N φ M w)
    (ht : TmRel φ c.nt tm tmps) {cfs cs : List Frame} (hβ : β ≤ M.next) (hst : StkRel V φ M β0 β stk cfs) {s' : St} {f : Operand} {params : Array Tmp} {assign body : Code} {k : List AItem} {k' : List Item} (hk : ItsRel k k')
    (h : rangeFuncA V c tm stk M f params assign body k = some s') : Reach V N β0 β φ M w (on fr tmps (.code (.rangeFunc f params assign body) :: k')) cfs cs s' := by
  have key : ∀ (φ1 : Emb) (M1 : Mem) (w1 : World) (dl : Nat) (dloc : Loc) (amark : List ADef) (mark : List Deferred), Rep V.P V.G N φ1 M1 w1 → Ext φ M φ1 → Kept N w w1 → Unm φ M M1 → φ1 dl = some dloc → DefsRel φ1 amark mark →
      (∀ (r : Nat) (w2 : World), (newObj (.loop { state := .ready, pending := none, fn := fr.fn, tmps, params, assign, body, defers := dloc.blk })).run V.P w1 = .ok r w2 → (Instr.enterLoop fr.fn tmps params assign body fr.roundOf).run V.P w = .ok (r, mark) w2) →
      rangeFuncB V c tm stk M1 f params assign body k dl amark = some s' → Reach V N β0 β φ M w (on fr tmps (.code (.rangeFunc f params assign body) :: k')) cfs cs s' := by
    intro φ1 M1 w1 dl dloc amark mark R1 e1 k1 u1 hdl hmark henter h
    unfold rangeFuncB at h
    split at h
    · rename_i M2 hM2
      split at h
      · rename_i fv hfv
        split at h
        · rename_i g args M3 hcall
          let L : Loop := { state := .ready, pending := none, fn := fr.fn, tmps, params, assign, body, defers := dloc.blk }
          let lc : Loc := ⟨w1.heap.size, 0, 0, 0⟩
          have hfresh : φ1 M1.next = none := R1.fresh (Nat.le_refl _)
          have hle1 := Emb.le_with lc hfresh
          obtain ⟨R2, e2, k2, u2⟩ := R1.bothPush (o := .loop { state := .ready, pending := none, fn := c.fn, tmps := tm, nt := c.nt, params, assign, body, defers := dl }) (obj := .loop L) (l := lc) hM2 trivial rfl
            ⟨L, by rw [wpush_get, if_pos rfl], rfl, rfl, hc.fn, (ht.mono e1.1).mono hle1, rfl, rfl, rfl, dloc, hle1 _ _ hdl, rfl⟩
          have hlc : (φ1.with M1.next lc) M1.next = some lc := Emb.with_same _ _ _
          have eA : Ext φ M (φ1.with M1.next lc) := e1.trans u1.1 e2
          have uA : Unm φ M M2 := u1.trans e1 u2
          have hE := ExtB.of eA uA hβ
          have hslots : Slots (φ1.with M1.next lc) tm tmps := (ht.mono eA.1).2
          have hops := hslots.ops
          have hr := hops _ _ hfv
          unfold callA at hcall
          split at hcall
          · rename_i f0 xs ys
            obtain ⟨rfl, rfl, rfl⟩ := fnCall_enter hS R2 hcall
            generalize hu : ev tmps f = u at hr
            cases hr with
            | func _ _ _ us vs h1 h2 =>
              have hus : VsRel (φ1.with M1.next lc) (xs ++ [.yield M1.next] ++ ys) (us ++ (#[Value.func (.yield w1.heap.size) #[] #[]] : Array Value) ++ vs).toList := by
                rw [Array.toList_append, Array.toList_append]
                exact (h1.append (.cons _ _ _ _ (.yield _ _ hlc) .nil)).append h2
              unfold mkSt at h
              split at h
              · rename_i fr2 hfr2
                cases h
                obtain ⟨r2, fn, hfn, hbody⟩ := enter_rel (M := M3) (lo := M3.next) hS.env hus hfr2
                have h2run : (do let d ← resolve (ev tmps) { callee := .value f, args := #[.const (.func (.yield w1.heap.size) #[] #[])], argTypes := #[] } 0; invoke d.target d.args : Sem Next).run V.P (wpush w1 (.loop L)) =
                    .ok (.enter g (us ++ (#[Value.func (.yield w1.heap.size) #[] #[]] : Array Value) ++ vs)) (wpush w1 (.loop L)) := by
                  simp only [resolve, Sem.run_bind, Sem.run_pure, Result.andThen_ok, hu, Deferred.ofValue, invoke]
                  have : (#[Operand.const (.func (.yield w1.heap.size) #[] #[])] : Array Operand).map (ev tmps) = #[.func (.yield w1.heap.size) #[] #[]] := by simp [ev, Act.eval]
                  rw [this]
                  exact callFunc_run hfn hbody (hS.num _ fn hfn hbody)
                have hstep := on_rangeFunc (cs := cfs ++ cs) (k := k') hm (henter _ _ run_newObj) h2run
                refine ⟨_, _, ({ on fr tmps (.inRangeFunc w1.heap.size :: k') with defers := mark ++ fr.defers } : Frame) :: cfs, _, M3.next, .one hstep, .run r2, .cons _ β _ _ _ _ ⟨⟨hc.fn, ?_, hc.k1, hc.k2, ?_⟩, hcm, hm, ?_⟩ (Nat.le_trans hβ uA.1) (hst.later hE), R2, hE, Nat.le_refl _, k1.trans k2, ?_⟩
                · exact (hmark.mono hle1).append (hc.defers.mono eA.1)
                · rcases hc.round with h3 | ⟨b, l, h3, h4, h5⟩
                  · exact .inl h3
                  · exact .inr ⟨b, l, h3, eA.1 _ _ h4, h5⟩
                · exact .inRange M1.next lc k _ k' hlc (ht.mono eA.1) hk
                · show bot ({ on fr tmps (.inRangeFunc w1.heap.size :: k') with defers := mark ++ fr.defers } : Frame) cfs = _
                  exact bot_same (by rfl) cfs
              · cases h
          · cases hcall
          · cases hcall
        · cases h
      · cases h
    · cases h
  unfold rangeFuncA at h
  rcases hc.round with ⟨r1, r2⟩ | ⟨b, lc, r1, r2, r3⟩
  · rw [r1] at h
    simp only at h
    split at h
    · rename_i M1 hM1
      have hfresh : φ M.next = none := R.fresh (Nat.le_refl _)
      obtain ⟨R1, e1, k1, u1⟩ := R.bothPush (o := .deferred true) (obj := .deferred (some [])) (l := ⟨w.heap.size, 0, 0, 0⟩) hM1 trivial rfl (by show (wpush w _).heap[w.heap.size]? = _; rw [wpush_get, if_pos rfl]; rfl)
      refine key _ M1 _ M.next ⟨w.heap.size, 0, 0, 0⟩ _ [{ target := .collected w.heap.size, args := #[] }] R1 e1 k1 u1 (Emb.with_same _ _ _) (.cons _ _ _ _ (Emb.with_same _ _ _) .nil) (fun r w2 hnew => ?_) h
      simp only [Instr.enterLoop, r2, Sem.run_bind, run_newObj, Result.andThen_ok, Sem.run_pure]
      rw [run_newObj] at hnew
      cases hnew
      rfl
    · cases h
  · rw [r1] at h
    simp only at h
    split at h
    · rename_i r hr
      obtain ⟨o', ho', hor⟩ := R.blk b lc r2
      rw [hr] at ho'; cases ho'
      obtain ⟨L, q1, q2, q3, q4, q5, q6, q7, q8, d, q9, q10⟩ := hor
      refine key φ M w r.defers d [] [] R (.refl _ _) (.refl _ _) (.refl _ _) q9 .nil (fun r' w2 hnew => ?_) h
      simp only [Instr.enterLoop, r3, Sem.run_bind, run_getLoop q1, Result.andThen_ok, Sem.run_pure, q10]
      rw [run_newObj] at hnew ⊢
      cases hnew
      rfl
    · cases h

theorem code_ok {φ : Emb} {β0 β : Nat} {c : ACtx} {fr : Frame} (hc : CRel φ c fr) (hm : fr.mode = .run) (hcm : c.mode = .run) {stk : List AFrame} {tm : T AV} {M : Mem} {w : World} {tmps : Array Value} (R : Rep V.P V.G N φ M w)
    (ht : TmRel φ c.nt tm tmps) {cfs cs : List Frame} (hβ : β ≤ M.next) (hst : StkRel V φ M β0 β stk cfs) {s' : St} : ∀ (x : Code) (k : List AItem) (k' : List Item), ItsRel k k' → codeA V c tm stk M x k = some s' →
      Reach V N β0 β φ M w (on fr tmps (.code x :: k')) cfs cs s' := by
  have hsl : Slots φ tm tmps := ht.2
  have here : ∀ (k : List AItem) (k' : List Item), ItsRel k k' → goA c tm stk M k = some s' → Reach V N β0 β φ M w (on fr tmps k') cfs cs s' := reach_here hS hc hm hcm R ht hβ hst
  intro x
  induction x with
  | skip => intro k k' hk h; exact .step (on_skip hm) rfl (here k k' hk h)
  | region id ops draw =>
    intro k k' hk h
    cases draw with
    | false =>
      refine .step (on_region hm) rfl ?_
      have := opsA_ok (cs := cs) hS hm hcm hk ops.toList 0 tm M φ w tmps hc rfl h R ht hβ hst
      rw [Nat.sub_zero] at this
      rw [List.range_eq_range']
      exact this
    | true =>
      have h : regionA V c tm stk M ops.toList true k = some s' := h
      unfold regionA at h
      simp only at h
      cases hp : planOk ops.toList
      · rw [hp] at h; cases h
      · rw [hp, cond_true] at h
        obtain ⟨hL, hall⟩ := planOk_spec hp
        obtain ⟨t, hstep⟩ := on_regionDraw (P := V.P) (cs := cfs ++ cs) (w := w) (k := k') (id := id) (ops := ops) (tmps := tmps) hm
        have pr : PR V ops [] φ M c.nt tm tmps [] (fun _ => none) := ⟨fun i hi => (by cases hi), fun y hy => (by cases hy), fun i hi => (by cases hi), ht.1, fun t v hv _ => ht.2 t v hv, fun x hx => (by cases hx), fun x hx => (by cases hx), fun x hx => (by cases hx)⟩
        exact .after (.one hstep) (.refl _ _ _) (kept_drawn N w) rfl (planA_ok hS hm hcm hk (planOf ops) [] [] tm M (fun _ => none) φ _ tmps [] _ hc hL (fun y hy => (by cases hy)) h (R.drawn rfl) pr
          (schedule_valid hL.back hall (V.P.follows .mixedOrders) t) (fun x hx => (by cases hx)) hβ hst)
  | seq a b iha ihb =>
    intro k k' hk h
    exact .step (on_seq hm) rfl (iha (.code b :: k) (.code b :: k') (.cons _ _ _ _ (.code b) hk) h)
  | cond o a b iha ihb =>
    intro k k' hk h
    have h : (match evalA tm o with
      | some (.bool t) => (match t with | true => codeA V c tm stk M a k | false => codeA V c tm stk M b k)
      | _ => none) = some s' := h
    split at h
    · rename_i t ht'
      have hb : ev tmps o = .bool t := by
        have := hsl.ops _ _ ht'
        generalize ev tmps o = u at this
        cases this
        rfl
      refine .step (on_cond hm hb) rfl ?_
      cases t
      · exact ihb k k' hk h
      · exact iha k k' hk h
    · cases h
  | block id b ih => intro k k' hk h; exact .step (on_block hm) rfl (ih _ _ (.cons _ _ _ _ (.inBlock id) hk) h)
  | loop body ih => intro k k' hk h; exact .step (on_loop hm) rfl (ih _ _ (.cons _ _ _ _ (.inLoop body) hk) h)
  | rangeFunc f params assign body _ _ =>
    intro k k' hk h
    exact range_ok hS hc hm hcm R ht hβ hst hk h
  | exit id =>
    intro k k' hk h
    have h : exitOr V c tm (.code (.exit id) :: k) stk M (exitA id k) (.exit id) = some s' := h
    unfold exitOr at h
    split at h
    · rename_i j hj
      obtain ⟨j', h1, h2⟩ := exit_rel hk hj
      exact .step (on_exit hm h1) rfl (here j j' h2 h)
    · rename_i hj
      exact leave_ok hS hc hm hcm R ht hβ hst (.exit id k' (exit_none hk hj)) h
  | scope body ih => intro k k' hk h; exact .step (on_scope hm) rfl (ih _ _ (.cons _ _ _ _ (.inScope body) hk) h)
  | label l => intro k k' hk h; exact .step (on_label hm) rfl (here k k' hk h)
  | goto l =>
    intro k k' hk h
    have h : exitOr V c tm (.code (.goto l) :: k) stk M (gotoA l k) (.goto l) = some s' := h
    unfold exitOr at h
    split at h
    · rename_i j hj
      obtain ⟨j', h1, h2⟩ := goto_rel hk hj
      exact .step (on_goto hm h1) rfl (here j j' h2 h)
    · rename_i hj
      exact leave_ok hS hc hm hcm R ht hβ hst (.goto l k' (goto_none hk hj)) h
  | ret =>
    intro k k' hk h
    have h : leaveA V c tm (.code .ret :: k) stk M (some .ret) = some s' := h
    exact leave_ok hS hc hm hcm R ht hβ hst (.ret k') h
  | refuse why =>
    intro k k' hk h
    have h : (none : Option St) = some s' := h
    cases h

theorem run1_ok {φ : Emb} {β0 β : Nat} {c : ACtx} {fr : Frame} (hc : CRel φ c fr) (hm : fr.mode = .run) (hcm : c.mode = .run) {stk : List AFrame} {tm : T AV} {M : Mem} {w : World} {tmps : Array Value} (R : Rep V.P V.G N φ M w)
    {cfs cs : List Frame} (hβ : β ≤ M.next) (hst : StkRel V φ M β0 β stk cfs) {s' : St} {todo : List AItem} {todo' : List Item} (hrun : Run V φ M β c.nt tm todo tmps todo') (h : runA1 V c tm stk M todo = some s') :
    Reach V N β0 β φ M w (on fr tmps todo') cfs cs s' := by
  cases hrun with
  | plain _ _ _ ht hk =>
    cases hk with
    | nil =>
      have h : leaveA V c tm [] stk M none = some s' := h
      exact leave_ok hS hc hm hcm R ht hβ hst .done h
    | cons x y k k' hx hk =>
      cases hx with
      | code x => exact code_ok hS hc hm hcm R ht hβ hst x k k' hk h
      | inBlock n => exact .step (on_inBlock hm) rfl (reach_here hS hc hm hcm R ht hβ hst k k' hk h)
      | inScope b => exact .step (on_inScope hm) rfl (reach_here hS hc hm hcm R ht hβ hst k k' hk h)
      | beginRound =>
        have h : beginA V c tm stk M k = some s' := h
        unfold beginA at h
        rcases hc.round with ⟨r1, _⟩ | ⟨b, lc, r1, r2, r3⟩
        · rw [r1] at h; cases h
        · rw [r1] at h
          simp only at h
          split at h
          · rename_i r hr
            cases hb : (r.state == .ready)
            · rw [hb] at h; cases h
            · rw [hb, cond_true] at h
              split at h
              · rename_i M' hM'
                obtain ⟨o', ho', hor⟩ := R.blk b lc r2
                rw [hr] at ho'; cases ho'
                obtain ⟨L, q1, q2, q3, q4, q5, q6, q7, q8, q9⟩ := hor
                have hrdy : L.state = .ready := by rw [q2]; cases hst' : r.state <;> rw [hst'] at hb <;> first | rfl | cases hb
                have hrel : BlkRel V.P φ M' (wput w lc.blk (.loop { L with state := .busy })) (.loop { r with state := .busy }) lc := ⟨_, (wput_upd q1).here, rfl, q3, q4, q5, q6, q7, q8, q9⟩
                obtain ⟨R', k1, u1⟩ := putG_ok hS.env R r2 hr (fun _ e => by cases e) (fun _ e => by cases e) q1 hM' hrel
                have hE : ExtB β φ φ M M' := ExtB.of (.refl _ _) u1 hβ
                have hrun : (Instr.beginRound lc.blk).run V.P w = .ok () (wput w lc.blk (.loop { L with state := .busy })) := by
                  simp only [Instr.beginRound, Sem.run_bind, run_getLoop q1, Result.andThen_ok, run_setObj q1 (fun _ _ _ e => by cases e), hrdy, Sem.run_pure]
                exact .after (.one (on_beginRound hm r3 hrun)) hE k1 rfl (reach_here hS hc hm hcm R' ht (Nat.le_trans hβ u1.1) (hst.later hE) k k' hk h)
              · cases h
          · cases h
      | inLoop body => exact .step (on_inLoop hm) rfl (code_ok hS hc hm hcm R ht hβ hst body _ _ (.cons _ _ _ _ (.inLoop body) hk) h)
  | ops ops i k _ k' ht hk => exact opsA_ok hS hm hcm hk _ i tm M φ w tmps hc rfl h R ht hβ hst
  | endRange b lc k _ k' hlc ht hk =>
    have h : endRangeA V c tm stk M b k = some s' := h
    unfold endRangeA at h
    split at h
    · rename_i r hr
      cases hb : (r.state == .busy)
      · rw [hb, cond_false] at h
        split at h
        · rename_i M' hM'
          obtain ⟨o', ho', hor⟩ := R.blk b lc hlc
          rw [hr] at ho'; cases ho'
          obtain ⟨L, q1, q2, q3, q4, q5, q6, q7, q8, q9⟩ := hor
          have hrel : BlkRel V.P φ M' (wput w lc.blk (.loop { L with state := .exhausted })) (.loop { r with state := .exhausted }) lc := ⟨_, (wput_upd q1).here, rfl, q3, q4, q5, q6, q7, q8, q9⟩
          obtain ⟨R', k1, u1⟩ := putG_ok hS.env R hlc hr (fun _ e => by cases e) (fun _ e => by cases e) q1 hM' hrel
          have hE : ExtB β φ φ M M' := ExtB.of (.refl _ _) u1 hβ
          have hnb : ¬ (L.state == .busy) = true := by rw [q2, hb]; exact Bool.false_ne_true
          have hrun : (Instr.endLoop lc.blk).run V.P w = .ok L.pending (wput w lc.blk (.loop { L with state := .exhausted })) := by
            simp only [Instr.endLoop, Sem.run_bind, run_getLoop q1, Result.andThen_ok, if_neg hnb, run_setObj q1 (fun _ _ _ e => by cases e), Sem.run_pure]
          refine .after (.one (on_endRange hm hrun)) hE k1 rfl ?_
          have hq : (L.pending.map Item.code).toList ++ k' = (r.pending.map Item.code).toList ++ k' := by rw [q3]
          rw [hq]
          cases hp : r.pending with
          | none =>
            rw [hp] at h
            exact reach_here hS hc hm hcm R' ht (Nat.le_trans hβ u1.1) (hst.later hE) k k' hk h
          | some x =>
            rw [hp] at h
            exact reach_here hS hc hm hcm R' ht (Nat.le_trans hβ u1.1) (hst.later hE) _ _ (.cons _ _ _ _ (.code x) hk) h
        · cases h
      · rw [hb] at h; cases h
    · cases h
  | plan ops pre post done D l kd k _ k' g1 g2 g3 g4 g5 hk => exact planA_ok hS hm hcm hk post pre done tm M kd φ w tmps D l hc g1 g2 h R g3 g4 g5 hβ hst

/-- The run of a frame, up to its end. -/
theorem run_ok : ∀ (n : Nat) (s : St) (v : AV) (M' : Mem), runA V n s = some (v, M') → ∀ (β0 β : Nat) (φ : Emb) (w : World) (fr : Frame) (cfs cs : List Frame), TopRel V φ s.mem β s.fr fr → StkRel V φ s.mem β0 β s.stk cfs → β ≤ s.mem.next →
    Rep V.P V.G N φ s.mem w →
    ∃ φ' u w' fr', Steps V.P (Go.lone fr (cfs ++ cs) w) (Go.lone fr' cs w') ∧ fr'.fn = bot fr cfs ∧ fr'.leaving V.P w' (.returned u) ∧ VRel φ' v u ∧ Rep V.P V.G N φ' M' w' ∧ ExtB β0 φ φ' s.mem M' ∧ Kept N w w'
  | 0, _, _, _, h => by cases h
  | n + 1, ⟨⟨c, tm, todo⟩, stk, M⟩, v, M', h => by
    intro β0 β φ w fr cfs cs htop hst hβ R
    have next : ∀ s', Reach V N β0 β φ M w fr cfs cs s' → runA V n s' = some (v, M') → ∃ φ' u w' fr', Steps V.P (Go.lone fr (cfs ++ cs) w) (Go.lone fr' cs w') ∧ fr'.fn = bot fr cfs ∧ fr'.leaving V.P w' (.returned u) ∧
        VRel φ' v u ∧ Rep V.P V.G N φ' M' w' ∧ ExtB β0 φ φ' M M' ∧ Kept N w w' := by
      intro s' ⟨φ1, fr1, cfs1, w1, β1, h1, h2, h3, h4, h5, h6, h7, h8⟩ hr
      obtain ⟨φ2, u, w2, fr2, g1, g2, g3, g4, g5, g6, g7⟩ := run_ok n s' v M' hr β0 β1 φ1 w1 fr1 cfs1 cs h2 h3 h6 h4
      exact ⟨φ2, u, w2, fr2, h1.trans g1, g2.trans h8, g3, g4, g5, (h5.weaken hst.le).trans g6, h7.trans g7⟩
    have h : stepA V (runA V n) ⟨⟨c, tm, todo⟩, stk, M⟩ = some (v, M') := h
    unfold stepA at h
    simp only at h
    cases htop with
    | run r =>
      obtain ⟨hc, h1, h2, h3⟩ := r
      simp only at hc h1 h2 h3 hst R hβ
      rw [h1] at h
      simp only at h
      unfold nextA at h
      split at h
      · rename_i s' hs'
        have : fr = on fr fr.tmps fr.todo := by obtain ⟨⟩ := fr; rfl
        refine next s' ?_ h
        rw [this]
        exact run1_ok hS hc h2 h1 R hβ hst h3 hs'
      · cases h
    | ret hc h1 h2 h3 =>
      simp only at hc h1 h2 h3 hst R hβ
      rw [h1] at h
      simp only at h
      unfold retA at h
      have hdef := hc.defers
      generalize hcd : c.defers = ads at h hdef
      generalize hfd : fr.defers = fds at hdef
      cases hdef with
      | cons b lc ds es hb hds =>
        simp only at h
        unfold nextA at h
        split at h
        · rename_i s' hs'
          have hs' : takeA V c tm todo stk M b ds = some s' := hs'
          unfold takeA at hs'
          split at hs'
          · rename_i hr
            split at hs'
            · rename_i M1 hM1
              cases hs'
              obtain ⟨o', ho', hor⟩ := R.blk b lc hb
              rw [hr] at ho'; cases ho'
              have q1 : w.heap[lc.blk]? = some (.deferred (some [])) := hor
              have hrel : BlkRel V.P φ M1 (wput w lc.blk (.deferred none)) (.deferred false) lc := (wput_upd q1).here
              obtain ⟨R', k1, u1⟩ := putG_ok hS.env R hb hr (fun _ e => by cases e) (fun _ e => by cases e) q1 hM1 hrel
              have hE : ExtB β φ φ M M1 := ExtB.of (.refl _ _) u1 hβ
              have hrun : (Instr.takeDeferred lc.blk).run V.P w = .ok [] (wput w lc.blk (.deferred none)) := by
                simp only [Instr.takeDeferred, Sem.run_bind, run_getObj q1 (fun _ _ _ e => by cases e), Result.andThen_ok, run_setObj q1 (fun _ _ _ e => by cases e), Sem.run_pure]
              refine next _ ⟨φ, { fr with defers := es }, cfs, _, β, .one (take_none h2 hfd hrun), .ret ⟨hc.fn, hds, hc.k1, hc.k2, hc.round⟩ h1 h2 h3, hst.later hE, R', hE, Nat.le_trans hβ u1.1, k1, ?_⟩ h
              exact bot_same (a := { fr with defers := es }) (b := fr) (by rfl) cfs
            · cases hs'
          · cases hs'
        · cases h
      | nil =>
      simp only at h
      split at h
      · rename_i v' hv'
        obtain ⟨fn, u, q1, q2, q3⟩ := result_ok hS.env R h3.2 hv'
        have hleave : fr.leaving V.P w (.returned u) := ⟨h2, hfd, hc.k2, fn, by rw [hc.fn]; exact q1, q2⟩
        cases hst with
        | nil =>
          cases h
          exact ⟨φ, u, w, fr, .refl _ _, rfl, hleave, q3, R, .refl _ _ _, .refl _ _⟩
        | cons _ β' a fr1 s1 cfs1 hr1 hle hst1 =>
          simp only at h
          unfold nextA at h
          split at h
          · rename_i s' hs'
            unfold doRetA at hs'
            rw [hc.k1] at hs'
            simp only at hs'
            unfold mkSt at hs'
            split at hs'
            · rename_i a' ha'
              cases hs'
              have hfin := finish_ok hS hr1 q3 ha'
              refine next _ ⟨φ, fr1.finish u, cfs1, w, β', .one (step_leave_returned hleave), .run hfin, hst1, R, .refl _ _ _, Nat.le_trans hle hβ, .refl _ _, ?_⟩ h
              have : (fr1.finish u).fn = fr1.fn := by rw [hfin.ctx.fn, hr1.ctx.fn]; exact finish_fn hS ha'
              exact bot_same this cfs1
            · cases hs'
          · cases h
      · cases h

/-- What the abstract machine answers is what the call comes to. -/
theorem ev_ok {n : Nat} {f : FuncId} {args : List AV} {us : Array Value} {v : AV} {M M' : Mem} {φ : Emb} {w : World} (R : Rep V.P V.G N φ M w) (hv : VsRel φ args us.toList) (h : evA V n f args M = some (v, M')) :
    Calls V.P f us w (Ends V.P V.G N φ M w v M') := by
  intro cs
  unfold evA at h
  split at h
  · rename_i fr hfr
    obtain ⟨r, _⟩ := enter_rel (M := M) (lo := M.next) hS.env hv hfr
    obtain ⟨φ', u, w', fr', h1, h2, h3, h4, h5, h6, h7⟩ := run_ok hS n _ v M' h M.next M.next φ w _ [] cs (.run r) (.nil _ (Nat.le_refl _)) (Nat.le_refl _) R
    obtain ⟨h8, h9⟩ := h6.back
    exact ⟨.returned u, w', fr', ⟨φ', u, rfl, h4, h5, h8, h7, h9⟩, h1, h2, h3⟩
  · cases h

end
end Go.Proofs.Ytcpffiihdnecjaa.Ev
