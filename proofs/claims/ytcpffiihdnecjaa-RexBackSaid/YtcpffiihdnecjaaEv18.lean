/- The evaluator: append, in the model. -/
import Derived.Test.YtcpffiihdnecjaaEv17
namespace Go.Proofs.Ytcpffiihdnecjaa.Ev
set_option linter.unusedSectionVars false
set_option linter.unusedSimpArgs false
set_option linter.unusedVariables false
open Go

theorem nextcap_le (need cap : Nat) (h : cap < need) : Builtin.nextslicecap need cap ≤ 2 * need := by
  unfold Builtin.nextslicecap
  split
  · omega
  · split
    · omega
    · have grow : ∀ (k c : Nat), 256 ≤ need → c ≤ 2 * need → Builtin.growBy need k c ≤ 2 * need := by
        intro k
        induction k with
        | zero => intro c _ h; exact h
        | succ k ih =>
          intro c hn hc
          unfold Builtin.growBy
          split
          · exact hc
          · exact ih _ hn (by omega)
      exact grow _ _ (by omega) (by omega)

section
variable {P : Program} {w : World} {ts : Array TypeId} {t t' e ty : TypeId} {d : TypeDesc} {size : Nat} (h0 : ts[0]? = some t) (h1 : ts[1]? = some t') (hu : P.underlying t = some (.slice e)) (hu' : P.underlying t' = some d)
  (hs : ∀ w, (sizeOf e).run P w = .ok size w) {base : Option Addr} {sLen sCap : Nat} {xu : Value} {n : Nat}
include h0 h1 hu hu' hs

theorem zeros_no (hd : ∀ k, d ≠ .int k) : (match d with | .int _ => true | _ => false) = false := by
  cases d <;> first | rfl | exact absurd rfl (hd _)

theorem app_in (hd : ∀ k, d ≠ .int k) {us : Array Value} {w' : World} (hl : (Builtin.lenOf xu).run P w = .ok n w) (hf : (Builtin.firstCells size n xu).run P w = .ok us w) (hle : sLen + n ≤ sCap)
    (hst : (base = none ∧ w' = w) ∨ ∃ a, base = some a ∧ (storeCells (a.add (sLen * size)) us.toList).run P w = .ok () w') :
    (Builtin.append_ ts ty #[.slice base sLen sCap, xu]).run P w = .ok (.slice base (sLen + n) sCap) w' := by
  have g0 : (#[Value.slice base sLen sCap, xu] : Array Value)[0]? = some (.slice base sLen sCap) := rfl
  have g1 : (#[Value.slice base sLen sCap, xu] : Array Value)[1]? = some xu := rfl
  have hz := zeros_no h0 h1 hu hu' hs hd
  have : ∀ (b : Bool), b = false → True := fun _ _ => trivial
  rcases hst with ⟨rfl, rfl⟩ | ⟨a, rfl, hst⟩
  · simp only [Builtin.append_, h0, h1, g0, g1, Sem.run_bind, run_underlying hu, run_underlying hu', Result.andThen_ok, hs, Sem.run_pure]
    cases d <;> first
      | exact absurd rfl (hd _)
      | (simp only [Bool.false_eq_true, if_false, hl, hf, if_pos hle, Sem.run_bind, Result.andThen_ok, Sem.run_pure, Bool.not_false, if_true]; try rfl)
  · simp only [Builtin.append_, h0, h1, g0, g1, Sem.run_bind, run_underlying hu, run_underlying hu', Result.andThen_ok, hs, Sem.run_pure]
    cases d <;> first
      | exact absurd rfl (hd _)
      | (simp only [Bool.false_eq_true, if_false, hl, hf, if_pos hle, Sem.run_bind, Result.andThen_ok, Sem.run_pure, hst, Bool.not_false, if_true]; try rfl)

theorem app_grow (hd : ∀ k, d ≠ .int k) {us old : Array Value} {ti : TypeInfo} {zu : Value} (hti : ∀ w, (typeInfo e).run P w = .ok ti w) (hzu : ∀ w, (zeroValue e).run P w = .ok zu w)
    (hl : (Builtin.lenOf xu).run P w = .ok n w)
    (hold : (Builtin.firstCells size sLen (.slice base sLen sCap)).run P { w with drawn := w.drawn + 1 } = .ok old { w with drawn := w.drawn + 1 })
    (hf : (Builtin.firstCells size n xu).run P { w with drawn := w.drawn + 1 } = .ok us { w with drawn := w.drawn + 1 }) (hle : sCap < sLen + n) (hb : ti.bytes ≠ 0) (hbig : 2 * (sLen + n) * ti.bytes < 140737488355328) :
    ∃ newCap, sLen + n ≤ newCap ∧ newCap < 9223372036854775808 ∧ (Builtin.append_ ts ty #[.slice base sLen sCap, xu]).run P w =
      .ok (.slice (some ⟨w.heap.size, 0, none⟩) (sLen + n) newCap) (wpush { w with drawn := w.drawn + 1 } (.cells (old ++ us ++ Builtin.zeroCells zu.cells (newCap - (sLen + n))) e)) := by
  have g0 : (#[Value.slice base sLen sCap, xu] : Array Value)[0]? = some (.slice base sLen sCap) := rfl
  have g1 : (#[Value.slice base sLen sCap, xu] : Array Value)[1]? = some xu := rfl
  have hnle : ¬ sLen + n ≤ sCap := by omega
  have hsmall : sLen + n < 140737488355328 := by
    have : (sLen + n) * 1 ≤ (sLen + n) * ti.bytes := Nat.mul_le_mul_left _ (by omega)
    have : 2 * (sLen + n) * ti.bytes = 2 * ((sLen + n) * ti.bytes) := Nat.mul_assoc _ _ _
    omega
  have hnc := nextcap_le (sLen + n) sCap (by omega)
  have hcap : ¬ (Builtin.nextslicecap (sLen + n) sCap * ti.bytes > 2 ^ 48) := by
    have : Builtin.nextslicecap (sLen + n) sCap * ti.bytes ≤ 2 * (sLen + n) * ti.bytes := Nat.mul_le_mul_right _ hnc
    omega
  have hmax : ¬ (((sLen + n : Nat) : Int) > IntKind.i64.max) := by
    have : IntKind.i64.max = 9223372036854775807 := by decide
    omega
  have hq : (Question.appendCap (sLen + n) sCap e).forced = false := rfl
  let w1 : World := { w with drawn := w.drawn + 1 }
  have hch : (choose (.appendCap (sLen + n) sCap e)).run P w = .ok ((Question.appendCap (sLen + n) sCap e).cut (w.tape w.drawn (Question.appendCap (sLen + n) sCap e))) w1 := by
    rw [run_choose, hq]; rfl
  refine ⟨(Question.appendCap (sLen + n) sCap e).cut (w.tape w.drawn (Question.appendCap (sLen + n) sCap e)), Nat.le_add_right _ _, ?_, ?_⟩
  · show sLen + n + _ % (2 ^ 63 - (sLen + n)) < _
    have := Nat.mod_lt (w.tape w.drawn (Question.appendCap (sLen + n) sCap e)) (show 0 < 2 ^ 63 - (sLen + n) by omega)
    omega
  have ho : (Builtin.firstCells size sLen (.slice base sLen sCap)).run P w1 = .ok old w1 := hold
  have hn : (Builtin.firstCells size n xu).run P w1 = .ok us w1 := hf
  have hno : ¬ ((((sLen + n : Nat) : Int) > IntKind.i64.max) ∧ (False ∨ ti.bytes = 0)) := fun h => hmax h.1
  simp only [Builtin.append_, h0, h1, g0, g1, Sem.run_bind, run_underlying hu, run_underlying hu', Result.andThen_ok, hs, Sem.run_pure]
  cases d <;> first
    | exact absurd rfl (hd _)
    | (simp only [Bool.false_eq_true, if_false, hl, if_neg hnle, hti, Sem.run_bind, Result.andThen_ok, Sem.run_pure, if_neg hno, if_neg hcap, hch, run_askRoom, ho, hn, hzu, Bool.not_false, if_true]
       rfl)

end
end Go.Proofs.Ytcpffiihdnecjaa.Ev
