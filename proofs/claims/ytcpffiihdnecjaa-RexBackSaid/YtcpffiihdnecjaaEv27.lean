/- The evaluator: steps of the machine, one frame's. -/
import Derived.Test.YtcpffiihdnecjaaEv26
namespace Go.Proofs.Ytcpffiihdnecjaa.Ev
set_option linter.unusedSectionVars false
set_option linter.unusedSimpArgs false
set_option linter.unusedVariables false
open Go

/-- A frame with other slots, other things to do. -/
noncomputable def on (fr : Frame) (tmps : Array Value) (todo : List Item) : Frame := { fr with tmps, todo }
noncomputable def ev (tmps : Array Value) : Operand → Value := (Act.mk tmps []).eval
noncomputable def putV (tmps : Array Value) (d : Option Tmp) (v : Value) : Array Value := ((Act.mk tmps []).put d v).tmps

theorem on_eval (fr : Frame) (tmps : Array Value) (todo : List Item) : (on fr tmps todo).eval = ev tmps := by
  funext x; cases x <;> rfl

theorem putV_none (tmps : Array Value) (v : Value) : putV tmps none v = tmps := rfl
theorem putV_some (tmps : Array Value) (d : Tmp) (v : Value) : putV tmps (some d) v = tmps.setIfInBounds d v := rfl
theorem putV_size (tmps : Array Value) (d : Option Tmp) (v : Value) : (putV tmps d v).size = tmps.size := by
  cases d
  · rfl
  · rw [putV_some, Array.size_setIfInBounds]

theorem on_finish (fr : Frame) (tmps : Array Value) (ops : Array Oper) (i : Nat) (l : List Nat) (k : List Item) (o : Oper) (ho : ops[i]? = some o) (v : Value) :
    (on fr tmps (.inRegion ops (i :: l) :: k)).finish v = on fr (putV tmps o.dst v) (.inRegion ops l :: k) := by
  unfold Frame.finish on
  simp only [ho, Option.bind_some]
  cases h : o.dst <;> simp [putV, Act.put]

section
variable {P : Program} {fr : Frame} (hm : fr.mode = .run) {tmps : Array Value} {cs : List Frame} {w w' : World} {ops : Array Oper} {i : Nat} {l : List Nat} {k : List Item} {o : Oper} {v : Value}
include hm

theorem stepG_on (ho : ops[i]? = some o) (hw : Region.wanted o (yielded ops tmps) = true) (hd : fr.roundOf = none ∨ ∀ c, o.op ≠ .defer c) :
    stepG P true { frame := on fr tmps (.inRegion ops (i :: l) :: k), callers := cs, status := .running, dying := none } w =
      stepG.apply P true (on fr tmps (.inRegion ops (i :: l) :: k)) cs none (execOp (ev tmps) o) w := by
  have he := on_eval fr tmps (.inRegion ops (i :: l) :: k)
  have hm' : (on fr tmps (.inRegion ops (i :: l) :: k)).mode = .run := hm
  have hop : (on fr tmps (.inRegion ops (i :: l) :: k)).oper? = some o := ho
  have hr' : (on fr tmps (.inRegion ops (i :: l) :: k)).roundOf = fr.roundOf := rfl
  have ht : (on fr tmps (.inRegion ops (i :: l) :: k)).todo = .inRegion ops (i :: l) :: k := rfl
  have htm : (on fr tmps (.inRegion ops (i :: l) :: k)).tmps = tmps := rfl
  simp only [stepG, hm', stepG.exec, ht, htm, ho, Option.map_some, hw, Option.getD_some, if_true, stepG.oper, hop, hr', he]
  split
  · rename_i l' c h1 h2
    rcases hd with hd | hd
    · rw [hd] at h1; cases h1
    · exact absurd h2 (hd c)
  · rfl

theorem step_val (ho : ops[i]? = some o) (hw : Region.wanted o (yielded ops tmps) = true) {nx : Next} (hr : (execOp (ev tmps) o).run P w = .ok nx w') (hn : nx = .value v ∨ (nx = .skip ∧ v = undef)) :
    step P (lone (on fr tmps (.inRegion ops (i :: l) :: k)) cs w) = .next (lone (on fr (putV tmps o.dst v) (.inRegion ops l :: k)) cs w') := by
  have hd : ∀ c, o.op ≠ .defer c := by
    intro c hc
    simp only [execOp, hc, Sem.run_bind] at hr
    cases h : (resolve (ev tmps) c o.type).run P w with
    | ok d w1 =>
      rw [h] at hr
      simp only [Result.andThen_ok, Sem.run_pure] at hr
      rcases hn with rfl | ⟨rfl, _⟩ <;> cases hr
    | halt x w1 => rw [h] at hr; cases hr
  have hg := stepG_on (P := P) (cs := cs) (w := w) (l := l) (k := k) hm ho hw (.inr hd)
  rw [← on_finish fr tmps ops i l k o ho v]
  refine step_lone_go ?_
  rw [hg]
  rcases hn with rfl | ⟨rfl, rfl⟩ <;> simp [stepG.apply, hr]

theorem step_enter (ho : ops[i]? = some o) (hw : Region.wanted o (yielded ops tmps) = true) {f : FuncId} {args : Array Value} (hr : (execOp (ev tmps) o).run P w = .ok (.enter f args) w') :
    step P (lone (on fr tmps (.inRegion ops (i :: l) :: k)) cs w) = .next (lone (Frame.enter P f args .normal) (on fr tmps (.inRegion ops (i :: l) :: k) :: cs) w') := by
  have hd : ∀ c, o.op ≠ .defer c := by
    intro c hc
    simp only [execOp, hc, Sem.run_bind] at hr
    cases h : (resolve (ev tmps) c o.type).run P w with
    | ok d w1 =>
      rw [h] at hr
      simp only [Result.andThen_ok, Sem.run_pure] at hr
      cases hr
    | halt x w1 => rw [h] at hr; cases hr
  have hg := stepG_on (P := P) (cs := cs) (w := w) (l := l) (k := k) hm ho hw (.inr hd)
  refine step_lone_go ?_
  rw [hg]
  simp [stepG.apply, hr, on]

theorem step_not (ho : ops[i]? = some o) (hw : Region.wanted o (yielded ops tmps) = false) :
    step P (lone (on fr tmps (.inRegion ops (i :: l) :: k)) cs w) = .next (lone (on fr (putV tmps o.dst undef) (.inRegion ops l :: k)) cs w) := by
  rw [← on_finish fr tmps ops i l k o ho undef]
  refine step_lone_go ?_
  have hm' : (on fr tmps (.inRegion ops (i :: l) :: k)).mode = .run := hm
  have ht : (on fr tmps (.inRegion ops (i :: l) :: k)).todo = .inRegion ops (i :: l) :: k := rfl
  have htm : (on fr tmps (.inRegion ops (i :: l) :: k)).tmps = tmps := rfl
  simp [stepG, hm', stepG.exec, ht, htm, ho, hw]

-- code

theorem stepG_to {todo todo' : List Item} (h : stepG.exec P true true (on fr tmps todo) cs none w = .go { frame := on fr tmps todo', callers := cs, status := .running, dying := none } w) :
    step P (lone (on fr tmps todo) cs w) = .next (lone (on fr tmps todo') cs w) := by
  refine step_lone_go ?_
  have hm' : (on fr tmps todo).mode = .run := hm
  simp only [stepG, hm', h]
  rfl

theorem on_skip : step P (lone (on fr tmps (.code .skip :: k)) cs w) = .next (lone (on fr tmps k) cs w) := stepG_to hm (by simp [stepG.exec, on])
theorem on_label {n : Nat} : step P (lone (on fr tmps (.code (.label n) :: k)) cs w) = .next (lone (on fr tmps k) cs w) := stepG_to hm (by simp [stepG.exec, on])
theorem on_inBlock {n : Nat} : step P (lone (on fr tmps (.inBlock n :: k)) cs w) = .next (lone (on fr tmps k) cs w) := stepG_to hm (by simp [stepG.exec, on])
theorem on_inScope {c : Code} : step P (lone (on fr tmps (.inScope c :: k)) cs w) = .next (lone (on fr tmps k) cs w) := stepG_to hm (by simp [stepG.exec, on])
theorem on_seq {x y : Code} : step P (lone (on fr tmps (.code (.seq x y) :: k)) cs w) = .next (lone (on fr tmps (.code x :: .code y :: k)) cs w) := stepG_to hm (by simp [stepG.exec, on])
theorem on_block {n : Nat} {c : Code} : step P (lone (on fr tmps (.code (.block n c) :: k)) cs w) = .next (lone (on fr tmps (.code c :: .inBlock n :: k)) cs w) := stepG_to hm (by simp [stepG.exec, on])
theorem on_loop {c : Code} : step P (lone (on fr tmps (.code (.loop c) :: k)) cs w) = .next (lone (on fr tmps (.code c :: .inLoop c :: k)) cs w) := stepG_to hm (by simp [stepG.exec, on])
theorem on_inLoop {c : Code} : step P (lone (on fr tmps (.inLoop c :: k)) cs w) = .next (lone (on fr tmps (.code c :: .inLoop c :: k)) cs w) := stepG_to hm (by simp [stepG.exec, on])
theorem on_scope {c : Code} : step P (lone (on fr tmps (.code (.scope c) :: k)) cs w) = .next (lone (on fr tmps (.code c :: .inScope c :: k)) cs w) := stepG_to hm (by simp [stepG.exec, on])
theorem on_exit {n : Nat} {k' : List Item} (h : exitTo n k = some k') : step P (lone (on fr tmps (.code (.exit n) :: k)) cs w) = .next (lone (on fr tmps k') cs w) := stepG_to hm (by simp [stepG.exec, on, h])
theorem on_goto {n : Nat} {k' : List Item} (h : gotoIn n k = some k') : step P (lone (on fr tmps (.code (.goto n) :: k)) cs w) = .next (lone (on fr tmps k') cs w) := stepG_to hm (by simp [stepG.exec, on, h])
theorem on_cond {c : Operand} {x y : Code} {t : Bool} (h : ev tmps c = .bool t) : step P (lone (on fr tmps (.code (.cond c x y) :: k)) cs w) = .next (lone (on fr tmps (.code (if t then x else y) :: k)) cs w) :=
  stepG_to hm (by
    have := on_eval fr tmps (.code (.cond c x y) :: k)
    have h' : (on fr tmps (.code (.cond c x y) :: k)).eval c = .bool t := by rw [this]; exact h
    have ht : (on fr tmps (.code (.cond c x y) :: k)).todo = .code (.cond c x y) :: k := rfl
    simp only [stepG.exec, ht, h']
    rfl)
theorem on_region {id : Nat} : step P (lone (on fr tmps (.code (.region id ops false) :: k)) cs w) = .next (lone (on fr tmps (.inRegion ops (List.range ops.size) :: k)) cs w) := stepG_to hm (by simp [stepG.exec, on])
theorem on_regionEnd : step P (lone (on fr tmps (.inRegion ops [] :: k)) cs w) = .next (lone (on fr tmps k) cs w) := stepG_to hm (by simp [stepG.exec, on])
theorem on_regionDraw {id : Nat} : ∃ t, step P (lone (on fr tmps (.code (.region id ops true) :: k)) cs w) =
    .next (lone (on fr tmps (.inRegion ops (Region.schedule (P.follows .mixedOrders) ops t) :: k)) cs { w with drawn := w.drawn + 1 }) := by
  refine ⟨w.tape w.drawn (.order fr.fn id), step_lone_go ?_⟩
  have hm' : (on fr tmps (.code (.region id ops true) :: k)).mode = .run := hm
  have ht : (on fr tmps (.code (.region id ops true) :: k)).todo = .code (.region id ops true) :: k := rfl
  have hf : (on fr tmps (.code (.region id ops true) :: k)).fn = fr.fn := rfl
  simp [stepG, hm', stepG.exec, ht, hf, choose, Sem.run, Question.forced, Question.cut]
  simp [on, hm]
theorem on_leave (hr : fr.roundOf = none) : step P (lone (on fr tmps []) cs w) = .next (lone { on fr tmps [] with mode := .returning } cs w) := by
  refine step_lone_go ?_
  have hm' : (on fr tmps []).mode = .run := hm
  have ht : (on fr tmps []).todo = [] := rfl
  have hr' : (on fr tmps []).roundOf = none := hr
  simp [stepG, hm', stepG.exec, ht, hr']
theorem on_ret (hr : fr.roundOf = none) : step P (lone (on fr tmps (.code .ret :: k)) cs w) = .next (lone { on fr tmps (.code .ret :: k) with mode := .returning } cs w) := by
  refine step_lone_go ?_
  have hm' : (on fr tmps (.code .ret :: k)).mode = .run := hm
  have ht : (on fr tmps (.code .ret :: k)).todo = .code .ret :: k := rfl
  have hr' : (on fr tmps (.code .ret :: k)).roundOf = none := hr
  simp [stepG, hm', stepG.exec, ht, hr']


-- range over a function: rounds

/-- A round is entered. -/
theorem step_round (ho : ops[i]? = some o) (hw : Region.wanted o (yielded ops tmps) = true) {b : Nat} {f : FuncId} {ts : Array Value} {assign body : Code} (hr : (execOp (ev tmps) o).run P w = .ok (.round b f ts assign body) w') :
    step P (lone (on fr tmps (.inRegion ops (i :: l) :: k)) cs w) = .next (lone (Frame.round b f ts assign body .normal) (on fr tmps (.inRegion ops (i :: l) :: k) :: cs) w') := by
  have hd : ∀ c, o.op ≠ .defer c := by
    intro c hc
    simp only [execOp, hc, Sem.run_bind] at hr
    cases h : (resolve (ev tmps) c o.type).run P w with
    | ok d w1 =>
      rw [h] at hr
      simp only [Result.andThen_ok, Sem.run_pure] at hr
      cases hr
    | halt x w1 => rw [h] at hr; cases hr
  have hg := stepG_on (P := P) (cs := cs) (w := w) (l := l) (k := k) hm ho hw (.inr hd)
  refine step_lone_go ?_
  rw [hg]
  simp [stepG.apply, hr, on]

/-- Where a frame leaves: it has come to its end, returns, or jumps out of what it holds. -/
inductive LeavesBy : List Item → Option Code → Prop
  | done : LeavesBy [] none
  | ret (k : List Item) : LeavesBy (.code .ret :: k) (some .ret)
  | exit (n : Nat) (k : List Item) : exitTo n k = none → LeavesBy (.code (.exit n) :: k) (some (.exit n))
  | goto (n : Nat) (k : List Item) : gotoIn n k = none → LeavesBy (.code (.goto n) :: k) (some (.goto n))

/-- A round's end. -/
theorem on_endRound {b : Nat} (hr : fr.roundOf = some b) (hk : fr.kind = .normal) {todo : List Item} {jump : Option Code} (hl : LeavesBy todo jump) {c : Frame} (h : (Instr.endRound b jump).run P w = .ok v w') :
    step P (lone (on fr tmps todo) (c :: cs) w) = .next (lone (c.finish v) cs w') := by
  refine step_lone_go ?_
  have hm' : (on fr tmps todo).mode = .run := hm
  have hr' : (on fr tmps todo).roundOf = some b := hr
  have hk' : (on fr tmps todo).kind = .normal := hk
  have ht : (on fr tmps todo).todo = todo := rfl
  cases hl with
  | done => simp [stepG, hm', stepG.exec, ht, hr', Sem.runT_eq, h, doReturn, hk']
  | ret k => simp [stepG, hm', stepG.exec, ht, hr', Sem.runT_eq, h, doReturn, hk']
  | exit n k he => simp [stepG, hm', stepG.exec, ht, hr', Sem.runT_eq, h, doReturn, hk', he]
  | goto n k he => simp [stepG, hm', stepG.exec, ht, hr', Sem.runT_eq, h, doReturn, hk', he]

/-- A loop over a function is entered. -/
theorem on_rangeFunc {f : Operand} {params : Array Tmp} {assign body : Code} {b : Nat} {mark : List Deferred} {g : FuncId} {us : Array Value} {w1 : World} (h1 : (Instr.enterLoop fr.fn tmps params assign body fr.roundOf).run P w = .ok (b, mark) w1)
    (h2 : (do let d ← resolve (ev tmps) { callee := .value f, args := #[.const (.func (.yield b) #[] #[])], argTypes := #[] } 0; invoke d.target d.args : Sem Next).run P w1 = .ok (.enter g us) w1) :
    step P (lone (on fr tmps (.code (.rangeFunc f params assign body) :: k)) cs w) =
      .next (lone (Frame.enter P g us .normal) ({ on fr tmps (.inRangeFunc b :: k) with defers := mark ++ fr.defers } :: cs) w1) := by
  refine step_lone_go ?_
  have hm' : (on fr tmps (.code (.rangeFunc f params assign body) :: k)).mode = .run := hm
  have ht : (on fr tmps (.code (.rangeFunc f params assign body) :: k)).todo = .code (.rangeFunc f params assign body) :: k := rfl
  have hf : (on fr tmps (.code (.rangeFunc f params assign body) :: k)).fn = fr.fn := rfl
  have htm : (on fr tmps (.code (.rangeFunc f params assign body) :: k)).tmps = tmps := rfl
  have hr : (on fr tmps (.code (.rangeFunc f params assign body) :: k)).roundOf = fr.roundOf := rfl
  have he : ({ fn := fr.fn, tmps := tmps, todo := .inRangeFunc b :: k, defers := mark ++ fr.defers, mode := .run, kind := fr.kind, roundOf := fr.roundOf } : Frame).eval = ev tmps := by
    funext x; cases x <;> rfl
  have hd : (on fr tmps (.code (.rangeFunc f params assign body) :: k)).defers = fr.defers := rfl
  simp only [Sem.run_bind] at h2
  simp only [stepG, hm', stepG.exec, ht, hf, htm, hr, hd, Sem.runT_eq, h1, GStep.bare_after, stepG.apply, if_true]
  have hkd : (on fr tmps (.code (.rangeFunc f params assign body) :: k)).kind = fr.kind := rfl
  simp only [hkd, Sem.run_bind, he, h2, GStep.bare_after]
  simp [on, hm]

theorem on_endRange {b : Nat} {jump : Option Code} (h : (Instr.endLoop b).run P w = .ok jump w') :
    step P (lone (on fr tmps (.endRangeFunc b :: k)) cs w) = .next (lone (on fr tmps ((jump.map Item.code).toList ++ k)) cs w') := by
  refine step_lone_go ?_
  have hm' : (on fr tmps (.endRangeFunc b :: k)).mode = .run := hm
  have ht : (on fr tmps (.endRangeFunc b :: k)).todo = .endRangeFunc b :: k := rfl
  simp only [stepG, hm', stepG.exec, ht, Sem.runT_eq, h, GStep.bare_after]
  simp [on, hm]

theorem on_beginRound {b : Nat} (hr : fr.roundOf = some b) (h : (Instr.beginRound b).run P w = .ok () w') :
    step P (lone (on fr tmps (.beginRound :: k)) cs w) = .next (lone (on fr tmps k) cs w') := by
  refine step_lone_go ?_
  have hm' : (on fr tmps (.beginRound :: k)).mode = .run := hm
  have ht : (on fr tmps (.beginRound :: k)).todo = .beginRound :: k := rfl
  have hr' : (on fr tmps (.beginRound :: k)).roundOf = some b := hr
  have hrun : (do (some b).elim (stuck "beginRound: no round") Instr.beginRound; pure .skip : Sem Next).run P w = .ok .skip w' := by
    simp only [Option.elim, Sem.run_bind, h, Result.andThen_ok, Sem.run_pure]
  simp only [stepG, hm', stepG.exec, ht, hr', stepG.apply, Sem.runT_eq, if_true, hrun, GStep.bare_after]
  simp [Frame.finish, on, hm]

end

/-- The deferred calls of a loop over a function, of which there are none, are taken. -/
theorem take_none {P : Program} {fr : Frame} (hm : fr.mode = .returning) {b : Nat} {ds : List Deferred} (hd : fr.defers = { target := .collected b, args := #[] } :: ds) {cs : List Frame} {w w' : World} (h : (Instr.takeDeferred b).run P w = .ok [] w') :
    step P (lone fr cs w) = .next (lone { fr with defers := ds } cs w') := by
  refine step_lone_go ?_
  simp only [stepG, hm, unwind, hd, Sem.runT_eq, h, GStep.bare_after]
  simp [hm]

end Go.Proofs.Ytcpffiihdnecjaa.Ev
