/- The evaluator: the operations that only compute or read. -/
import Derived.Test.YtcpffiihdnecjaaEv9
namespace Go.Proofs.Ytcpffiihdnecjaa.Ev
set_option linter.unusedSectionVars false
set_option linter.unusedSimpArgs false
set_option linter.unusedVariables false
open Go

theorem VRel.ptr_inv {φ : Emb} {b i : Nat} {u : Value} (h : VRel φ (.ptr b i) u) : ∃ l, φ b = some l ∧ u = .pointer (some (l.addr i)) := by
  cases h with
  | ptr _ _ l hl => exact ⟨l, hl, rfl⟩

theorem blt_true {a b : Nat} (h : Nat.blt a b = true) : a < b := by rwa [Nat.blt_eq] at h

section
variable {V : Env} (hV : EnvOk V) {G N : Nat} {φ : Emb} {M : Mem} {w : World} (R : Rep V.P G N φ M w) {tm : T AV} {ρ : Operand → Value} (ho : OpRel φ tm ρ)
include hV R ho

theorem sliceA_ok {t : TypeId} {x : Operand} {lo hi mx : Option Operand} {v : AV} (h : sliceA V tm M t x lo hi mx = some v) :
    ∃ u, (Instr.sliceAt t (ρ x) (lo.map ρ) (hi.map ρ) (mx.map ρ)).run V.P w = .ok u w ∧ VRel φ v u := by
  unfold sliceA at h
  split at h
  · rename_i a ha
    have hx := degO_rel hV R ho ha
    generalize ρ x = u at hx
    split at h
    · rename_i hu
      have hu' := und_of hV hu
      split at h
      · obtain ⟨q, hq, hr⟩ := sliceStr_ok (w := w) ho hu' hx h
        exact ⟨q, by simp only [Instr.sliceAt, Sem.run_bind, run_underlying hu', Result.andThen_ok]; exact hq, hr⟩
      · cases h
    · rename_i e hu
      have hu' := und_of hV hu
      have go : ∀ q, (Instr.slice t u (lo.map ρ) (hi.map ρ) (mx.map ρ)).run V.P w = .ok q w → (Instr.sliceAt t u (lo.map ρ) (hi.map ρ) (mx.map ρ)).run V.P w = .ok q w := fun q hq => by
        simp only [Instr.sliceAt, Sem.run_bind, run_underlying hu', Result.andThen_ok]; exact hq
      unfold sliceSl at h
      split at h
      · rename_i size hs
        have hsz := fun w => (size_of' hV w hs).2
        split at h
        · rename_i b i len cap
          cases hc : Nat.blt cap unk
          · rw [hc, cond_false] at h
            have hcu := blt_false hc
            cases hro : (isRowOf M b e && Nat.blt (cap - unk) unk)
            · rw [hro] at h; cases h
            · rw [hro, cond_true] at h
              simp only [Bool.and_eq_true] at hro
              obtain ⟨hro, hlt⟩ := hro
              have hlt := blt_true hlt
              cases hx with
              | slice _ _ _ _ l cap' hl h0 h1 h2 =>
                obtain ⟨k1, k2⟩ := h2 hcu
                have hesz : size = l.esz := by
                  unfold isRowOf at hro
                  split at hro
                  · rename_i r hr
                    obtain ⟨o, hob, hor⟩ := R.blk b l hl
                    rw [hr] at hob
                    cases hob
                    obtain ⟨c, fz, _, _, he, _⟩ := hor
                    have := Nat.eq_of_beq_eq_true hro
                    rw [this, (size_of' hV w hs).1] at he
                    exact he
                  · cases hro
                obtain ⟨a', h', m, r, hr⟩ := sliceLoose_ok (P := V.P) (w := w) ho hl h0 k1 k2 hesz hlt h
                exact ⟨_, go _ (slice_val hu' hsz r), hr⟩
              | sliceE =>
                rw [Nat.sub_self] at h
                obtain ⟨⟨j, rfl⟩, r⟩ := sliceE_ok (P := V.P) (w := w) ho h
                exact ⟨_, go _ (slice_val hu' hsz r), .sliceE _ _ _⟩
          · rw [hc, cond_true] at h
            have hcu := blt_true hc
            cases hx with
            | slice _ _ _ _ l cap' hl h0 h1 h2 =>
              obtain rfl := h1 hcu
              obtain ⟨a', h', m, r, hr⟩ := sliceKnown_ok (P := V.P) (w := w) ho true hl h0 hcu h
              exact ⟨_, go _ (slice_val hu' hsz r), hr⟩
            | sliceE => simp [unk] at hcu
        · obtain ⟨rfl, r⟩ := sliceNil_ok (P := V.P) (w := w) ho h
          cases hx
          exact ⟨_, go _ (slice_val hu' hsz r), .snil⟩
        · cases h
      · cases h
    · rename_i n e hu
      have hu' := und_of hV hu
      unfold sliceArr at h
      split at h
      · cases h
      · split at h
        · rename_i size hs
          split at h
          · rename_i b i
            cases hc : Nat.blt n unk
            · rw [hc] at h; cases h
            · rw [hc, cond_true] at h
              obtain ⟨l, hl, rfl⟩ := hx.ptr_inv
              obtain ⟨a', h', m, r, hr⟩ := sliceKnown_ok (P := V.P) (w := w) ho false hl (Nat.le_refl n) (blt_true hc) h
              refine ⟨_, ?_, hr⟩
              have r : (Instr.sliceBounds false n n (lo.map ρ) (hi.map ρ) none).run V.P w = .ok (a', h', m) w := r
              simp only [Instr.sliceAt, Sem.run_bind, run_underlying hu', Result.andThen_ok, Instr.sureAddr, Sem.run_pure, Option.map_none, r, (size_of' hV w hs).2]
              split <;> rfl
          · cases h
        · cases h
    · cases h
  · cases h

end
end Go.Proofs.Ytcpffiihdnecjaa.Ev
