/- The evaluator: every anchored operation; calls. -/
import Derived.Test.YtgjffkicbajbfaaDoorEv22
namespace Go.Proofs.YtgjffkicbajbfaaDoor.Ev
set_option linter.unusedSectionVars false
set_option linter.unusedSimpArgs false
set_option linter.unusedVariables false
open Go

/-- A call of a function with a text. -/
noncomputable def Enters (P : Program) (w : World) (φ : Emb) (s : Sem Next) (f : FuncId) (args : List AV) : Prop :=
  ∃ us : Array Value, VsRel φ args us.toList ∧ ∀ fn : Func, P.funcs[f]? = some fn → fn.body.isSome = true → s.run P w = .ok (.enter f us) w

section
variable {V : Env} (hS : Sure V) {N : Nat} {φ : Emb} {M : Mem} {w : World} (R : Rep V.P V.G N φ M w) {tm : T AV} {ρ : Operand → Value} (ho : OpRel φ tm ρ)
include hS R ho

omit hS R ho in
theorem viaF_enter {M M' : Mem} {x : FRes} {f : FuncId} {args : List AV} (h : viaF M x = .enter f args M') : False := by
  unfold viaF at h
  split at h
  · cases h
  · unfold rMem at h; split at h <;> cases h
  · cases h

omit hS R ho in
theorem rMem_enter {v : AV} {x : Option Mem} {M' : Mem} {f : FuncId} {args : List AV} (h : rMem v x = .enter f args M') : False := by
  unfold rMem at h; split at h <;> cases h

omit hS R ho in
theorem rVal_enter {x : Option (AV × Mem)} {M' : Mem} {f : FuncId} {args : List AV} (h : rVal x = .enter f args M') : False := by
  unfold rVal at h; split at h <;> cases h

omit hS R ho in
theorem cond_enter {b : Bool} {x y : ARes} {M' : Mem} {f : FuncId} {args : List AV} (h : (bif b then x else y) = .enter f args M') : x = .enter f args M' ∨ y = .enter f args M' := by
  cases b
  · exact .inr h
  · exact .inl h

omit hS R ho in
theorem oAssertNot_enter {t : TypeId} {ok : Bool} {M' : Mem} {f : FuncId} {args : List AV} (h : oAssertNot V M t ok = .enter f args M') : False := by
  unfold oAssertNot at h
  rcases cond_enter h with h | h
  · split at h <;> cases h
  · cases h

/-- A call of a value. -/
theorem oCallV {o : Oper} {c : Call} (hop : o.op = .call c) {x : Operand} (hc : c.callee = .value x) {fv : AV} {args : List AV} (hf : evalA tm x = some fv) (ha : evalsA tm c.args.toList = some args)
    {P : ARes → Prop} (hP : P (callA V M fv args)) (hno : ¬ P .no) :
    ∃ f xs, P (fnCall V M f xs) ∧ ∃ us : List Value, VsRel φ xs us ∧ (execOp ρ o).run V.P w = (callFunc f us.toArray).run V.P w := by
  have hr := ho _ _ hf
  have har := ho.list ha
  cases fv with
  | func fn xs ys =>
    cases fn with
    | func f =>
      simp only [callA] at hP
      generalize hr' : ρ x = u at hr
      cases hr with
      | func _ _ _ us vs h1 h2 =>
        refine ⟨f, _, hP, _, (h1.append har).append h2, ?_⟩
        simp only [execOp, hop, resolve, hc, Sem.run_bind, Sem.run_pure, Result.andThen_ok, hr', Deferred.ofValue, invoke]
        congr 2
        apply Array.ext'
        simp
    | _ => exact absurd hP hno
  | _ => exact absurd hP hno

theorem opA_val {o : Oper} {v : AV} {M' : Mem} (h : opA V tm M o.op = .val v M') : Goes V.P V.G N φ M w (execOp ρ o) v M' := by
  have hV := hS.env
  unfold opA at h
  split at h <;> rename_i hop
  · have := oStore_ok (w := w) hV R ho h; exact .inl (by simp only [execOp, hop]; exact this)
  · have := oMakeSlice_ok (w := w) hV R ho h; exact .inl (by simp only [execOp, hop]; exact this)
  · have := oMakeMap_ok (w := w) (ρ := ρ) hV R h; exact .inl (by simp only [execOp, hop]; exact this)
  · have := oMapUpdate_ok (w := w) hV R ho h; exact .inl (by simp only [execOp, hop]; exact this)
  · have := oMapUpdate_ok (w := w) hV R ho h; exact .inl (by simp only [execOp, hop]; exact this)
  · have := oLookup_ok (w := w) hV R ho h; exact .inl (by simp only [execOp, hop]; exact this)
  · refine .inl ?_
    simp only [execOp, hop]
    exact oAssert_ok hV R ho h
  · rename_i c
    unfold oCall at h
    split at h <;> rename_i hc
    · unfold oBuiltin at h
      split at h
      · exact .inl (oAppend_ok hS R ho hop hc h)
      · exact .inl (oCopy_ok hS R ho hop hc h)
      · exact .inl (oLen_ok hS R ho hop hc h)
      · exact .inl (viaF_ok hV R ho (by simp only [fA, hop, fCall, hc]; exact h))
      · exact .inl (viaF_ok hV R ho (by simp only [fA, hop, fCall, hc]; exact h))
      · exact .inl (viaF_ok hV R ho (by simp only [fA, hop, fCall, hc]; exact h))
      · cases h
    · split at h
      · rename_i fv hf
        split at h
        · rename_i args ha
          obtain ⟨f, xs, h1, us, h2, h3⟩ := oCallV hS R ho hop hc hf ha (P := fun r => r = .val v M') h (by simp)
          rcases fnCall_val hS R h2 h1 with ⟨φ', u, w', nx, k1, k2⟩ | ⟨f', us', k1, k2⟩
          · exact .inl ⟨φ', u, w', nx, h3.trans k1, k2⟩
          · exact .inr ⟨f', us', h3.trans k1, k2⟩
        · cases h
      · cases h
    · cases h
  all_goals first
    | exact .inl (viaF_ok hV R ho (by simp only [fA, hop]; exact h))
    | skip
  · rename_i src dst x
    unfold oConv at h
    split at h
    · split at h
      · split at h <;> cases h
      · exact .inl (viaF_ok hV R ho (by simp only [fA, hop]; exact h))
    · exact .inl (viaF_ok hV R ho (by simp only [fA, hop]; exact h))

theorem opA_enter {o : Oper} {f : FuncId} {args : List AV} {M' : Mem} (h : opA V tm M o.op = .enter f args M') : M' = M ∧ Enters V.P w φ (execOp ρ o) f args := by
  unfold opA at h
  split at h <;> rename_i hop
  case h_8 c =>
    unfold oCall at h
    split at h <;> rename_i hc
    · unfold oBuiltin at h
      split at h
      · unfold oAppend at h
        repeat' split at h
        all_goals first
          | (cases h; done)
          | exact (rVal_enter h).elim
      · unfold oCopy at h
        repeat' split at h
        all_goals first
          | (cases h; done)
          | exact (rVal_enter h).elim
      · unfold oLen oLenMap at h
        repeat' split at h
        all_goals first
          | (cases h; done)
          | exact (viaF_enter h).elim
      all_goals first
        | (cases h; done)
        | exact (viaF_enter h).elim
    · split at h
      · rename_i fv hf
        split at h
        · rename_i args' ha
          obtain ⟨f', xs, h1, us, h2, h3⟩ := oCallV hS R ho hop hc hf ha (P := fun r => r = .enter f args M') h (by simp)
          obtain ⟨rfl, rfl, rfl⟩ := fnCall_enter hS R h1
          exact ⟨rfl, us.toArray, by simpa using h2, fun fn q1 q2 => h3.trans (callFunc_run q1 q2 (hS.num _ fn q1 q2))⟩
        · cases h
      · cases h
    · cases h
  all_goals first
    | (cases h; done)
    | exact (viaF_enter h).elim
    | skip
  · unfold oStore at h
    repeat' split at h
    all_goals first
      | (cases h; done)
      | skip
    rename_i n _
    exfalso
    revert h
    cases Nat.beq (AV.cells _).length n
    · intro h; cases h
    · intro h; exact rMem_enter h
  · unfold oMakeSlice at h
    repeat' split at h
    all_goals first
      | (cases h; done)
      | skip
    unfold oMakeSlice1 at h
    exfalso
    revert h
    generalize (Nat.ble _ _ && _ && _ && _ && _) = b
    cases b
    · intro h; cases h
    · intro h
      rw [cond_true] at h
      split at h
      · exact rMem_enter h
      · cases h
  · unfold oMakeMap at h
    split at h
    · exact (rMem_enter h).elim
    · cases h
  · unfold oMapUpdate at h
    repeat' split at h
    all_goals first
      | (cases h; done)
      | exact (rMem_enter h).elim
  · unfold oMapUpdate at h
    repeat' split at h
    all_goals first
      | (cases h; done)
      | exact (rMem_enter h).elim
  · unfold oLookup oLookup1 at h
    repeat' split at h
    all_goals (cases h; done)
  · exfalso
    unfold oAssert at h
    repeat' split at h
    all_goals first
      | (cases h; done)
      | exact oAssertNot_enter h
      | skip
    rcases cond_enter h with h | h
    · cases h
    · exact oAssertNot_enter h
  · unfold oConv at h
    repeat' split at h
    all_goals first
      | (cases h; done)
      | exact (viaF_enter h).elim

end
end Go.Proofs.YtgjffkicbajbfaaDoor.Ev
