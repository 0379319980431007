/- The evaluator: an anchored operation. -/
import Derived.Test.YtgjffkicbajbfaaDoorEv21
namespace Go.Proofs.YtgjffkicbajbfaaDoor.Ev
set_option linter.unusedSectionVars false
set_option linter.unusedSimpArgs false
set_option linter.unusedVariables false
open Go

/-- A call's end, as it is known. -/
noncomputable def Ends (P : Program) (G N : Nat) (φ : Emb) (M : Mem) (w : World) (v : AV) (M' : Mem) (e : Ending) (w' : World) : Prop :=
  ∃ φ' u, e = .returned u ∧ VRel φ' v u ∧ Rep P G N φ' M' w' ∧ Ext φ M φ' ∧ Kept N w w' ∧ Unm φ M M'

/-- A piece comes to a value at once, or through a call. -/
noncomputable def Goes (P : Program) (G N : Nat) (φ : Emb) (M : Mem) (w : World) (s : Sem Next) (v : AV) (M' : Mem) : Prop :=
  Came P G N φ M w s v M' ∨ ∃ f us, s.run P w = .ok (.enter f us) w ∧ Calls P f us w (Ends P G N φ M w v M')

/-- What is known besides is so. -/
structure Sure (V : Env) : Prop where
  env : EnvOk V
  num : ∀ (f : FuncId) (fn : Func), V.P.funcs[f]? = some fn → fn.body.isSome = true → (fn.name == "runtime.NumGoroutine") = false
  ext : ∀ (f : FuncId) (g : List AV → Mem → Option (AV × Mem)) (args : List AV) (us : List Value) (φ : Emb) (M : Mem) (w : World) (v : AV) (M' : Mem) (N : Nat), V.ext.get f = some g → Rep V.P V.G N φ M w → VsRel φ args us → g args M = some (v, M') → Came V.P V.G N φ M w (callFunc f us.toArray) v M'
  sum : ∀ (f : FuncId) (g : List AV → Mem → Option (AV × Mem)) (args : List AV) (us : List Value) (φ : Emb) (M : Mem) (w : World) (v : AV) (M' : Mem) (N : Nat), V.sum.get f = some g → Rep V.P V.G N φ M w → VsRel φ args us → g args M = some (v, M') →
    Calls V.P f us.toArray w (Ends V.P V.G N φ M w v M') ∧ ∃ fn, V.P.funcs[f]? = some fn ∧ fn.body.isSome = true

theorem callFunc_run {P : Program} {f : FuncId} {fn : Func} {us : Array Value} {w : World} (h : P.funcs[f]? = some fn) (hb : fn.body.isSome = true) (hn : (fn.name == "runtime.NumGoroutine") = false) :
    (callFunc f us).run P w = .ok (.enter f us) w := by
  have hb' : fn.body.isNone = false := by cases h' : fn.body <;> simp_all
  have hp : (program : Sem Program).run P w = .ok P w := rfl
  simp only [callFunc, Sem.run_bind, hp, Result.andThen_ok, h, hn, hb', Bool.false_eq_true, if_false]
  rfl

section
variable {V : Env} (hS : Sure V) {N : Nat} {φ : Emb} {M : Mem} {w : World} (R : Rep V.P V.G N φ M w)
include hS R

theorem fnCall_val {f : FuncId} {args : List AV} {us : List Value} {v : AV} {M' : Mem} (hv : VsRel φ args us) (h : fnCall V M f args = .val v M') : Goes V.P V.G N φ M w (callFunc f us.toArray) v M' := by
  unfold fnCall at h
  split at h
  · rename_i g hg
    exact .inl (hS.ext f g args us φ M w v M' N hg R hv (rVal_inv h))
  · unfold sumCall at h
    split at h
    · rename_i g hg
      split at h
      · rename_i v' M1 hgv
        cases h
        obtain ⟨h1, fn, h2, h3⟩ := hS.sum f g args us φ M w _ _ N hg R hv hgv
        exact .inr ⟨f, us.toArray, callFunc_run h2 h3 (hS.num f fn h2 h3), h1⟩
      · cases h
    · cases h

theorem fnCall_enter {f f' : FuncId} {args args' : List AV} {M' : Mem} (h : fnCall V M f args = .enter f' args' M') : f' = f ∧ args' = args ∧ M' = M := by
  unfold fnCall at h
  split at h
  · unfold rVal at h
    split at h <;> cases h
  · unfold sumCall at h
    split at h
    · split at h
      · cases h
      · cases h; exact ⟨rfl, rfl, rfl⟩
    · cases h; exact ⟨rfl, rfl, rfl⟩

end

/-- A function's text, as the program has it. -/
theorem fns_of {V : Env} (hV : EnvOk V) {f : FuncId} {fn : Func} (h : V.E.fns.get f = some fn) : V.P.funcs[f]? = some fn := by
  rw [hV] at h
  have := T.ofL_get _ _ _ _ h
  rwa [Array.getElem?_toList] at this

section
variable {V : Env} (hS : Sure V) {N : Nat} {φ : Emb} {M : Mem} {w : World} (R : Rep V.P V.G N φ M w) {tm : T AV} {ρ : Operand → Value} (ho : OpRel φ tm ρ)
include hS R ho

theorem oAppend_ok {o : Oper} {c : Call} (hop : o.op = .call c) (hc : c.callee = .builtin .append) {v : AV} {M' : Mem} (h : oAppend V tm M c.args.toList c.argTypes = .val v M') : Came V.P V.G N φ M w (execOp ρ o) v M' := by
  unfold oAppend at h
  split at h
  · rename_i s x hsx
    obtain ⟨a, b, hab, ha, hb⟩ := two2_inv hsx
    split at h
    · rename_i t t' ht ht'
      split at h
      · rename_i e d hu hu'
        split at h
        · cases h
        · rename_i hd
          obtain ⟨φ', q, w', h1, h2, h3, h4, h5, h6⟩ := appendA_ok (ty := o.type) hS.env R ht ht' hu hu' (fun k e => hd k e) (ho _ _ ha) (ho _ _ hb) (rVal_inv h)
          refine ⟨φ', q, w', _, ?_, .inl rfl, h2, h3, h4, h5, h6⟩
          simp only [execOp, hop, resolve, hc, Sem.run_bind, Sem.run_pure, Result.andThen_ok, invoke, hab, builtin]
          rw [show (#[a, b] : Array Operand).map ρ = #[ρ a, ρ b] by simp]
          simp only [h1, Result.andThen_ok]
      · cases h
    · cases h
  · cases h

theorem oCopy_ok {o : Oper} {c : Call} (hop : o.op = .call c) (hc : c.callee = .builtin .copy) {v : AV} {M' : Mem} (h : oCopy V tm M c.args.toList c.argTypes = .val v M') : Came V.P V.G N φ M w (execOp ρ o) v M' := by
  unfold oCopy at h
  split at h
  · rename_i s x hsx
    obtain ⟨a, b, hab, ha, hb⟩ := two2_inv hsx
    split at h
    · rename_i t ht
      split at h
      · rename_i e hu
        obtain ⟨q, w', h1, h2, h3, h5, h6⟩ := copyA_ok (t' := o.type) hS.env R ht hu (ho _ _ ha) (ho _ _ hb) (rVal_inv h)
        refine ⟨φ, q, w', _, ?_, .inl rfl, h2, h3, .refl _ _, h5, h6⟩
        simp only [execOp, hop, resolve, hc, Sem.run_bind, Sem.run_pure, Result.andThen_ok, invoke, hab, builtin]
        rw [show (#[a, b] : Array Operand).map ρ = #[ρ a, ρ b] by simp]
        simp only [h1, Result.andThen_ok]
      · cases h
    · cases h
  · cases h

theorem oLen_ok {o : Oper} {c : Call} (hop : o.op = .call c) (hc : c.callee = .builtin .len) {v : AV} {M' : Mem} (h : oLen V tm M c.args c.argTypes = .val v M') : Came V.P V.G N φ M w (execOp ρ o) v M' := by
  unfold oLen at h
  split at h
  · rename_i t ht
    split at h
    · rename_i k e hu
      unfold oLenMap at h
      split at h
      · rename_i ha
        obtain ⟨x, hx, hv⟩ := one1_inv ha
        cases h
        refine .stay R (u := .int .i64 0) ?_ (.int _ _)
        have hr := ho _ _ hv
        cases hr' : ρ x with
        | map b =>
          rw [hr'] at hr
          cases hr
          simp only [execOp, hop, resolve, hc, Sem.run_bind, Sem.run_pure, Result.andThen_ok, invoke, hx, builtin]
          rw [show (#[x] : Array Operand).map ρ = #[.map none] by simp [hr']]
          simp [Builtin.len_, ht, run_underlying (und_of hS.env hu)]
          rfl
        | _ => rw [hr'] at hr; cases hr
      · rename_i b ha
        obtain ⟨x, hx, hv⟩ := one1_inv ha
        split at h
        · rename_i es clock hb
          cases h
          have hr := ho _ _ hv
          generalize hr' : ρ x = u at hr
          cases hr with
          | map _ l hl =>
            obtain ⟨o', ho', hor⟩ := R.blk b l hl
            rw [hb] at ho'; cases ho'
            obtain ⟨fs, hf1, hf2⟩ := hor
            refine .stay R (u := .int .i64 (.ofNat es.length)) ?_ (.int _ _)
            simp only [execOp, hop, resolve, hc, Sem.run_bind, Sem.run_pure, Result.andThen_ok, invoke, hx, builtin]
            rw [show (#[x] : Array Operand).map ρ = #[.map (some l.blk)] by simp [hr']]
            have hlen : fs.size = es.length := by
              rw [← Array.length_toList]
              exact hf2.length.symm
            simp [Builtin.len_, ht, run_underlying (und_of hS.env hu), run_getMap hf1, hlen]
            rfl
        · cases h
      · cases h
    · exact viaF_ok (o := o) hS.env R ho (by
        simp only [fA, hop, fCall, hc]
        exact h)
  · cases h

end
end Go.Proofs.YtgjffkicbajbfaaDoor.Ev
