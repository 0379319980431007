/- The evaluator: every anchored operation; calls. -/
import Derived.Test.YtcpffiihdnecjaaEv22
namespace Go.Proofs.Ytcpffiihdnecjaa.Ev
set_option linter.unusedSectionVars false
set_option linter.unusedSimpArgs false
set_option linter.unusedVariables false
open Go

/-- A call of a function with a text. -/
noncomputable def Enters (P : Program) (w : World) (φ : Emb) (s : Sem Next) (f : FuncId) (args : List AV) : Prop :=
  ∃ us : Array Value, VsRel φ args us.toList ∧ ∀ fn : Func, P.funcs[f]? = some fn → fn.body.isSome = true → s.run P w = .ok (.enter f us) w

noncomputable def ARes.calls : ARes → Bool
  | .round _ _ _ => true
  | .enter _ _ _ => true
  | _ => false

theorem cond_calls {b : Bool} {x y : ARes} (h : x.calls = false) (k : y.calls = false) : (bif b then x else y).calls = false := by
  cases b
  · exact k
  · exact h

theorem rMem_calls {v : AV} {x : Option Mem} : (rMem v x).calls = false := by
  unfold rMem; split <;> rfl

theorem oUnsafeString2_calls {M : Mem} {r : Row} {b i n : Nat} : (oUnsafeString2 M r b i n).calls = false := by
  unfold oUnsafeString2
  repeat' split
  all_goals first
    | rfl
    | exact rMem_calls

theorem oUnsafeString1_calls {V : Env} {M : Mem} {u : TypeId} {b i n : Nat} : (oUnsafeString1 V M u b i n).calls = false := by
  unfold oUnsafeString1
  split
  · exact cond_calls oUnsafeString2_calls rfl
  · rfl

theorem oUnsafeString_calls {V : Env} {tm : T AV} {M : Mem} {args : List Operand} {tys : Array TypeId} : (oUnsafeString V tm M args tys).calls = false := by
  unfold oUnsafeString
  split
  · split
    · split
      · exact cond_calls rfl rfl
      · refine cond_calls rfl ?_
        split
        · split
          · exact oUnsafeString1_calls
          · rfl
        · rfl
      · rfl
    · rfl
  · rfl

theorem oSliceData_calls {tm : T AV} {M : Mem} {args : List Operand} : (oSliceData tm M args).calls = false := by
  unfold oSliceData
  split
  · rfl
  · exact cond_calls rfl rfl
  · rfl

section
variable {V : Env} (hS : Sure V) {N : Nat} {φ : Emb} {M : Mem} {w : World} (R : Rep V.P V.G N φ M w) {tm : T AV} {ρ : Operand → Value} (ho : OpRel φ tm ρ)
include hS R ho

omit hS R ho in
theorem viaF_enter {M M' : Mem} {x : FRes} {f : FuncId} {args : List AV} (h : viaF M x = .enter f args M') : False := by
  unfold viaF at h
  split at h
  · cases h
  · unfold rMem at h; split at h <;> cases h
  · cases h

omit hS R ho in
theorem rMem_enter {v : AV} {x : Option Mem} {M' : Mem} {f : FuncId} {args : List AV} (h : rMem v x = .enter f args M') : False := by
  unfold rMem at h; split at h <;> cases h

omit hS R ho in
theorem rVal_enter {x : Option (AV × Mem)} {M' : Mem} {f : FuncId} {args : List AV} (h : rVal x = .enter f args M') : False := by
  unfold rVal at h; split at h <;> cases h

omit hS R ho in
theorem cond_enter {b : Bool} {x y : ARes} {M' : Mem} {f : FuncId} {args : List AV} (h : (bif b then x else y) = .enter f args M') : x = .enter f args M' ∨ y = .enter f args M' := by
  cases b
  · exact .inr h
  · exact .inl h

omit hS R ho in
theorem oAssertNot_enter {t : TypeId} {ok : Bool} {M' : Mem} {f : FuncId} {args : List AV} (h : oAssertNot V M t ok = .enter f args M') : False := by
  unfold oAssertNot at h
  rcases cond_enter h with h | h
  · split at h <;> cases h
  · cases h

/-- A call of a value. -/
theorem oCallV {o : Oper} {c : Call} (hop : o.op = .call c) {x : Operand} (hc : c.callee = .value x) {fv : AV} {args : List AV} (hf : evalA tm x = some fv) (ha : evalsA tm c.args.toList = some args)
    {P : ARes → Prop} (hP : P (callA V M fv args)) (hno : ¬ P .no) (hnr : ∀ b a M, ¬ P (.round b a M)) :
    ∃ f xs, P (fnCall V M f xs) ∧ ∃ us : List Value, VsRel φ xs us ∧ (execOp ρ o).run V.P w = (callFunc f us.toArray).run V.P w := by
  have hr := ho _ _ hf
  have har := ho.list ha
  cases fv with
  | func fn xs ys =>
    cases fn with
    | func f =>
      simp only [callA] at hP
      generalize hr' : ρ x = u at hr
      cases hr with
      | func _ _ _ us vs h1 h2 =>
        refine ⟨f, _, hP, _, (h1.append har).append h2, ?_⟩
        simp only [execOp, hop, resolve, hc, Sem.run_bind, Sem.run_pure, Result.andThen_ok, hr', Deferred.ofValue, invoke]
        congr 2
        apply Array.ext'
        simp
    | _ => exact absurd hP hno
  | yield b => exact absurd hP (hnr _ _ _)
  | _ => exact absurd hP hno

theorem opA_val {o : Oper} {v : AV} {M' : Mem} (h : opA V tm M o.op = .val v M') : Goes V.P V.G N φ M w (execOp ρ o) v M' := by
  have hV := hS.env
  unfold opA at h
  split at h <;> rename_i hop
  · have := oStore_ok (w := w) hV R ho h; exact .inl (by simp only [execOp, hop]; exact this)
  · have := oMakeSlice_ok (w := w) hV R ho h; exact .inl (by simp only [execOp, hop]; exact this)
  · have := oMakeMap_ok (w := w) (ρ := ρ) hV R h; exact .inl (by simp only [execOp, hop]; exact this)
  · have := oMapUpdate_ok (w := w) hV R ho h; exact .inl (by simp only [execOp, hop]; exact this)
  · have := oMapUpdate_ok (w := w) hV R ho h; exact .inl (by simp only [execOp, hop]; exact this)
  · have := oLookup_ok (w := w) hV R ho h; exact .inl (by simp only [execOp, hop]; exact this)
  · refine .inl ?_
    simp only [execOp, hop]
    exact oAssert_ok hV R ho h
  · rename_i c
    unfold oCall at h
    split at h <;> rename_i hc
    · unfold oBuiltin at h
      split at h
      · exact .inl (oAppend_ok hS R ho hop hc h)
      · exact .inl (oCopy_ok hS R ho hop hc h)
      · exact .inl (oUnsafeString_ok hS R ho hop hc h)
      · exact .inl (oSliceData_ok hS R ho hop hc h)
      · exact .inl (oLen_ok hS R ho hop hc h)
      · exact .inl (viaF_ok hV R ho (by simp only [fA, hop, fCall, hc]; exact h))
      · exact .inl (viaF_ok hV R ho (by simp only [fA, hop, fCall, hc]; exact h))
      · exact .inl (viaF_ok hV R ho (by simp only [fA, hop, fCall, hc]; exact h))
      · cases h
    · split at h
      · rename_i fv hf
        split at h
        · rename_i args ha
          obtain ⟨f, xs, h1, us, h2, h3⟩ := oCallV hS R ho hop hc hf ha (P := fun r => r = .val v M') h (by simp) (by simp)
          rcases fnCall_val hS R h2 h1 with ⟨φ', u, w', nx, k1, k2⟩ | ⟨f', us', k1, k2⟩
          · exact .inl ⟨φ', u, w', nx, h3.trans k1, k2⟩
          · exact .inr ⟨f', us', h3.trans k1, k2⟩
        · cases h
      · cases h
    · cases h
  all_goals first
    | exact .inl (viaF_ok hV R ho (by simp only [fA, hop]; exact h))
    | skip
  · rename_i src dst x
    unfold oConv at h
    split at h
    · split at h
      · split at h <;> cases h
      · exact .inl (viaF_ok hV R ho (by simp only [fA, hop]; exact h))
    · exact .inl (viaF_ok hV R ho (by simp only [fA, hop]; exact h))

theorem opA_enter {o : Oper} {f : FuncId} {args : List AV} {M' : Mem} (h : opA V tm M o.op = .enter f args M') : M' = M ∧ Enters V.P w φ (execOp ρ o) f args := by
  unfold opA at h
  split at h <;> rename_i hop
  case h_8 c =>
    unfold oCall at h
    split at h <;> rename_i hc
    · unfold oBuiltin at h
      split at h
      · unfold oAppend at h
        repeat' split at h
        all_goals first
          | (cases h; done)
          | exact (rVal_enter h).elim
      · unfold oCopy at h
        repeat' split at h
        all_goals first
          | (cases h; done)
          | exact (rVal_enter h).elim
      · have := oUnsafeString_calls (V := V) (tm := tm) (M := M) (args := c.args.toList) (tys := c.argTypes)
        rw [h] at this; cases this
      · have := oSliceData_calls (tm := tm) (M := M) (args := c.args.toList)
        rw [h] at this; cases this
      · unfold oLen oLenMap at h
        repeat' split at h
        all_goals first
          | (cases h; done)
          | exact (viaF_enter h).elim
      all_goals first
        | (cases h; done)
        | exact (viaF_enter h).elim
    · split at h
      · rename_i fv hf
        split at h
        · rename_i args' ha
          obtain ⟨f', xs, h1, us, h2, h3⟩ := oCallV hS R ho hop hc hf ha (P := fun r => r = .enter f args M') h (by simp) (by simp)
          obtain ⟨rfl, rfl, rfl⟩ := fnCall_enter hS R h1
          exact ⟨rfl, us.toArray, by simpa using h2, fun fn q1 q2 => h3.trans (callFunc_run q1 q2 (hS.num _ fn q1 q2))⟩
        · cases h
      · cases h
    · cases h
  all_goals first
    | (cases h; done)
    | exact (viaF_enter h).elim
    | skip
  · unfold oStore at h
    repeat' split at h
    all_goals first
      | (cases h; done)
      | skip
    rename_i n _
    exfalso
    revert h
    cases Nat.beq (AV.cells _).length n
    · intro h; cases h
    · intro h; exact rMem_enter h
  · unfold oMakeSlice at h
    repeat' split at h
    all_goals first
      | (cases h; done)
      | skip
    unfold oMakeSlice1 at h
    exfalso
    revert h
    generalize (Nat.ble _ _ && _ && _ && _ && _) = b
    cases b
    · intro h; cases h
    · intro h
      rw [cond_true] at h
      split at h
      · exact rMem_enter h
      · cases h
  · unfold oMakeMap at h
    split at h
    · exact (rMem_enter h).elim
    · cases h
  · unfold oMapUpdate at h
    repeat' split at h
    all_goals first
      | (cases h; done)
      | exact (rMem_enter h).elim
  · unfold oMapUpdate at h
    repeat' split at h
    all_goals first
      | (cases h; done)
      | exact (rMem_enter h).elim
  · unfold oLookup oLookup1 at h
    repeat' split at h
    all_goals (cases h; done)
  · exfalso
    unfold oAssert at h
    repeat' split at h
    all_goals first
      | (cases h; done)
      | exact oAssertNot_enter h
      | skip
    rcases cond_enter h with h | h
    · cases h
    · exact oAssertNot_enter h
  · unfold oConv at h
    repeat' split at h
    all_goals first
      | (cases h; done)
      | exact (viaF_enter h).elim

/-- An answer that calls. -/
noncomputable def ARes.rounds : ARes → Bool
  | .round _ _ _ => true
  | _ => false

omit hS R ho in
theorem viaF_rounds {M : Mem} {x : FRes} : (viaF M x).rounds = false := by
  unfold viaF
  split
  · rfl
  · unfold rMem; split <;> rfl
  · rfl

omit hS R ho in
theorem rMem_rounds {v : AV} {x : Option Mem} : (rMem v x).rounds = false := by
  unfold rMem; split <;> rfl

omit hS R ho in
theorem rVal_rounds {x : Option (AV × Mem)} : (rVal x).rounds = false := by
  unfold rVal; split <;> rfl

omit hS R ho in
theorem cond_rounds {b : Bool} {x y : ARes} (h : x.rounds = false) (k : y.rounds = false) : (bif b then x else y).rounds = false := by
  cases b
  · exact k
  · exact h

omit hS R ho in
theorem oAssertNot_rounds {t : TypeId} {ok : Bool} : (oAssertNot V M t ok).rounds = false := by
  unfold oAssertNot
  refine cond_rounds ?_ rfl
  split <;> rfl

omit hS R ho in
theorem fnCall_rounds {f : FuncId} {args : List AV} : (fnCall V M f args).rounds = false := by
  unfold fnCall
  split
  · exact rVal_rounds
  · unfold sumCall
    repeat' split
    all_goals rfl

theorem opA_round {o : Oper} {b : Nat} {args : List AV} {M' : Mem} (h : opA V tm M o.op = .round b args M') :
    M' = M ∧ ∃ us : List Value, VsRel φ args us ∧ ∃ l, φ b = some l ∧ (execOp ρ o).run V.P w = (Instr.yield l.blk us.toArray).run V.P w := by
  have hr : (opA V tm M o.op).rounds = true := by rw [h]; rfl
  unfold opA at h hr
  split at h <;> rename_i hop
  case h_8 c =>
    rw [hop] at hr
    simp only at hr
    unfold oCall at h
    split at h <;> rename_i hc
    · exfalso
      unfold oCall at hr
      rw [hc] at hr
      simp only at hr
      unfold oBuiltin at h hr
      split at h
      · simp only at hr
        unfold oAppend at hr
        repeat' split at hr
        all_goals first
          | (cases hr; done)
          | (rw [rVal_rounds] at hr; cases hr; done)
      · simp only at hr
        unfold oCopy at hr
        repeat' split at hr
        all_goals first
          | (cases hr; done)
          | (rw [rVal_rounds] at hr; cases hr; done)
      · have := oUnsafeString_calls (V := V) (tm := tm) (M := M) (args := c.args.toList) (tys := c.argTypes)
        rw [h] at this; cases this
      · have := oSliceData_calls (tm := tm) (M := M) (args := c.args.toList)
        rw [h] at this; cases this
      · simp only at hr
        unfold oLen oLenMap at hr
        repeat' split at hr
        all_goals first
          | (cases hr; done)
          | (rw [viaF_rounds] at hr; cases hr; done)
      all_goals simp only at hr
      all_goals first
        | (cases hr; done)
        | (rw [viaF_rounds] at hr; cases hr; done)
    · rename_i x
      split at h
      · rename_i fv hf
        split at h
        · rename_i args' ha
          unfold callA at h
          split at h
          · rename_i f xs ys
            have := fnCall_rounds (V := V) (M := M) (f := f) (args := xs ++ args' ++ ys)
            rw [h] at this; cases this
          · cases h
            have hr := ho _ _ hf
            have har := ho.list ha
            generalize hr' : ρ x = u at hr
            cases hr with
            | yield _ l hl =>
              refine ⟨rfl, _, har, l, hl, ?_⟩
              simp only [execOp, hop, resolve, hc, Sem.run_bind, Sem.run_pure, Result.andThen_ok, hr', Deferred.ofValue, invoke]
              congr 2
              apply Array.ext'
              simp
          · cases h
        · cases h
      · cases h
    · cases h
  all_goals exfalso
  all_goals first
    | (cases h; done)
    | (rw [hop] at hr; simp only at hr)
  all_goals first
    | (rw [viaF_rounds] at hr; cases hr; done)
    | skip
  · unfold oStore at hr
    repeat' split at hr
    all_goals first
      | (cases hr; done)
      | (rw [cond_rounds rMem_rounds rfl] at hr; cases hr; done)
  · unfold oMakeSlice at hr
    repeat' split at hr
    all_goals first
      | (cases hr; done)
      | skip
    unfold oMakeSlice1 at hr
    rw [cond_rounds (by split <;> first | exact rMem_rounds | rfl) rfl] at hr
    cases hr
  · unfold oMakeMap at hr
    split at hr
    · rw [rMem_rounds] at hr; cases hr
    · cases hr
  · unfold oMapUpdate at hr
    repeat' split at hr
    all_goals first
      | (cases hr; done)
      | (rw [rMem_rounds] at hr; cases hr; done)
  · unfold oMapUpdate at hr
    repeat' split at hr
    all_goals first
      | (cases hr; done)
      | (rw [rMem_rounds] at hr; cases hr; done)
  · unfold oLookup oLookup1 at hr
    repeat' split at hr
    all_goals (cases hr; done)
  · unfold oAssert at hr
    repeat' split at hr
    all_goals first
      | (cases hr; done)
      | (rw [oAssertNot_rounds] at hr; cases hr; done)
      | (rw [cond_rounds rfl oAssertNot_rounds] at hr; cases hr; done)
  · unfold oConv at hr
    repeat' split at hr
    all_goals first
      | (cases hr; done)
      | (rw [viaF_rounds] at hr; cases hr; done)

end
end Go.Proofs.Ytcpffiihdnecjaa.Ev
