/- The evaluator: what an anchored operation looks at; values that are the same; what hangs on no memory. -/
import Derived.Test.YtcpffiihdnecjaaEv27
namespace Go.Proofs.Ytcpffiihdnecjaa.Ev
set_option linter.unusedSectionVars false
set_option linter.unusedSimpArgs false
set_option linter.unusedVariables false
open Go

theorem opA_congr {V : Env} {tm tm' : T AV} {M : Mem} {o : Op} (h : ∀ x ∈ o.operands, evalA tm' x = evalA tm x) : opA V tm' M o = opA V tm M o := by
  have hf := fA_congr (V := V) (M := M) h
  cases o <;> simp only [Op.operands] at h <;> unfold opA <;> simp only []
  all_goals first
    | (unfold fA at hf; simp only [] at hf; rw [hf])
    | skip
  case store t a x => unfold oStore; rw [h a (by simp), h x (by simp)]
  case makeSlice t l c => unfold oMakeSlice; rw [h l (by simp), h c (by simp)]
  case mapUpdate t m k x =>
    have e := two2_congr (tm := tm) (tm' := tm') [k, x] (fun y hy => h y (by simp at hy ⊢; rcases hy with rfl | rfl <;> simp))
    unfold oMapUpdate; rw [h m (by simp), e]
  case insert t m k x =>
    have e := two2_congr (tm := tm) (tm' := tm') [k, x] (fun y hy => h y (by simp at hy ⊢; rcases hy with rfl | rfl <;> simp))
    unfold oMapUpdate; rw [h m (by simp), e]
  case lookup t x k ok =>
    have e := two2_congr (tm := tm) (tm' := tm') [x, k] (fun y hy => h y (by simp at hy ⊢; rcases hy with rfl | rfl <;> simp))
    unfold oLookup; rw [e]
  case typeAssert x s t ok => unfold oAssert; rw [h x (by simp)]
  case convert s d x => unfold fA at hf; simp only [] at hf; unfold oConv; rw [h x (by simp), hf]
  case call c =>
    have e : ∀ x ∈ c.args.toList, evalA tm' x = evalA tm x := fun x hx => h x (by simp [Call.operands]; simp at hx; cases c.callee <;> simp [hx])
    unfold oCall
    cases hc : c.callee with
    | builtin b =>
      simp only []
      have hb : ∀ b', fBuiltin V tm' b' c.args c.argTypes = fBuiltin V tm b' c.args c.argTypes := by
        intro b'
        unfold fBuiltin
        simp only [one1_congr _ e, two2_congr _ e]
      unfold oBuiltin oAppend oCopy oLen oLenMap oUnsafeString oSliceData
      simp only [hb, one1_congr _ e, two2_congr _ e]
    | value f =>
      have hx : evalA tm' f = evalA tm f := h f (by simp [Call.operands, hc])
      simp only [hx, evalsA_congr _ e]
    | invoke r n => rfl

theorem same1_eq {u v : AV} (h : AV.same1 u v = true) : u = v := by
  unfold AV.same1 at h
  split at h
  · rename_i a b
    cases a <;> cases b <;> first | rfl | cases h
  · rename_i j a k b
    by_cases hj : j = k
    · rw [decide_eq_true hj, cond_true] at h
      rw [hj, of_decide_eq_true h]
    · rw [decide_eq_false hj] at h; cases h
  · rename_i a b c d
    cases h1 : Nat.beq a c
    · rw [h1] at h; cases h
    · rw [h1, cond_true] at h
      rw [Nat.eq_of_beq_eq_true h1, Nat.eq_of_beq_eq_true h]
  · rename_i a b c d
    cases h1 : Nat.beq a c
    · rw [h1] at h; cases h
    · rw [h1, cond_true] at h
      rw [Nat.eq_of_beq_eq_true h1, Nat.eq_of_beq_eq_true h]
  · rename_i a b c d e f g i
    cases h1 : Nat.beq a e
    · rw [h1] at h; cases h
    · rw [h1, cond_true] at h
      cases h2 : Nat.beq b f
      · rw [h2] at h; cases h
      · rw [h2, cond_true] at h
        cases h3 : Nat.beq c g
        · rw [h3] at h; cases h
        · rw [h3, cond_true] at h
          rw [Nat.eq_of_beq_eq_true h1, Nat.eq_of_beq_eq_true h2, Nat.eq_of_beq_eq_true h3, Nat.eq_of_beq_eq_true h]
  · rw [Nat.eq_of_beq_eq_true h]
  · rw [Nat.eq_of_beq_eq_true h]
  all_goals first
    | rfl
    | cases h

theorem same1s_eq : ∀ {us vs : List AV}, same1s us vs = true → us = vs
  | [], [], _ => rfl
  | [], _ :: _, h => by cases h
  | _ :: _, [], h => by cases h
  | x :: r, y :: l, h => by
    unfold same1s at h
    cases h1 : AV.same1 x y
    · rw [h1] at h; cases h
    · rw [h1, cond_true] at h
      rw [same1_eq h1, same1s_eq h]

theorem same_eq {u v : AV} (h : AV.same u v = true) : u = v := by
  unfold AV.same at h
  split at h
  · rw [same1s_eq h]
  · rename_i f xs ys g us vs
    cases h1 : Nat.beq f g
    · rw [h1] at h; cases h
    · rw [h1, cond_true] at h
      cases h2 : same1s xs us
      · rw [h2] at h; cases h
      · rw [h2, cond_true] at h
        rw [Nat.eq_of_beq_eq_true h1, same1s_eq h2, same1s_eq h]
  · rename_i t v u w
    cases h1 : Nat.beq t u
    · rw [h1] at h; cases h
    · rw [h1, cond_true] at h
      rw [Nat.eq_of_beq_eq_true h1, same1_eq h]
  · exact same1_eq h

/-- What looks at no memory. -/
theorem fA_indep {V : Env} {tm : T AV} {M : Mem} {o : Op} {v : AV} (h : fA V tm M o = .val v) (hn : isRead o = false) (M' : Mem) : fA V tm M' o = .val v := by
  cases o <;> unfold fA at h ⊢ <;> simp only [] at h ⊢ <;> first
    | exact h
    | (cases hn; done)
    | skip
  case alloc e =>
    unfold fAlloc fP at h
    repeat' split at h
    all_goals (cases h; done)
  case box e x =>
    unfold fBox fP at h
    repeat' split at h
    all_goals (cases h; done)
  case buildSlice t len parts =>
    unfold fBuildSlice at h
    repeat' split at h
    all_goals first
      | (cases h; done)
      | exact (fBuildSlice1_val h).elim

end Go.Proofs.Ytcpffiihdnecjaa.Ev
