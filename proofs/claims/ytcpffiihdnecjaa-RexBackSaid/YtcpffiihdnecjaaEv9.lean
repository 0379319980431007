/- The evaluator: slicing; the operations that only compute or read. -/
import Derived.Test.YtcpffiihdnecjaaEv8
namespace Go.Proofs.Ytcpffiihdnecjaa.Ev
set_option linter.unusedSectionVars false
set_option linter.unusedSimpArgs false
set_option linter.unusedVariables false
open Go

theorem optI_mono {tm : T AV} {o : Option Operand} {y y' d i : Nat} (h : optI tm o y d = some i) (hy : y ≤ y') : optI tm o y' d = some i := by
  unfold optI at h ⊢
  split at h
  · exact h
  · split at h
    · unfold boundI at h ⊢
      split at h
      · rename_i _ j _
        cases hc : Nat.ble j y
        · rw [hc] at h; cases h
        · rw [hc, cond_true] at h
          have : Nat.ble j y' = true := Nat.ble_eq_true_of_le (by have := Nat.le_of_ble_eq_true hc; omega)
          rw [this]
          exact h
      · cases h
    · cases h

section slices
variable {V : Env} (hV : EnvOk V) {w : World} {φ : Emb} {tm : T AV} {ρ : Operand → Value} (ho : OpRel φ tm ρ) {lo hi mx : Option Operand}
include ho

theorem sliceStr_ok {P : Program} {t : TypeId} (hu : P.underlying t = some .string) {l n : Nat} {u : Value} {v : AV} (hx : VRel φ (.str l n) u) (h : sliceStr tm l n lo hi mx = some v) :
    ∃ q, (Instr.slice t u (lo.map ρ) (hi.map ρ) (mx.map ρ)).run P w = .ok q w ∧ VRel φ v q := by
  unfold sliceStr at h
  split at h
  · cases h
  · split at h
    · rename_i b hb
      split at h
      · rename_i a ha
        cases h
        cases hx with
        | str s =>
          obtain ⟨r, h1, h2, h3⟩ := bounds2 (P := P) w ho (isS := false) hb ha
          have hle : b ≤ s.size := by
            by_cases e : hi = none
            · rw [h3 e]; exact Nat.le_refl _
            · exact h2 e
          refine ⟨.string (s.extract a b), ?_, str_extract φ s a b h1 hle⟩
          simp only [Instr.slice, Sem.run_bind, run_underlying hu, Result.andThen_ok, Option.map_none, Option.isSome_none, Bool.false_eq_true, if_false, Sem.run_pure, r]
      · cases h
    · cases h

omit ho in
theorem slice_val {P : Program} {t e : TypeId} {size : Nat} (hu : P.underlying t = some (.slice e)) (hs : ∀ w, (sizeOf e).run P w = .ok size w) {a : Option Addr} {len cap l h m : Nat} {x y z : Option Value}
    (hr : (Instr.sliceBounds true len cap x y z).run P w = .ok (l, h, m) w) :
    (Instr.slice t (.slice a len cap) x y z).run P w = .ok (.slice (if m = l then a else a.map (·.add (l * size))) (h - l) (m - l)) w := by
  simp only [Instr.slice, Sem.run_bind, run_underlying hu, Result.andThen_ok, hr, hs, Sem.run_pure]

omit ho in
theorem Loc.add_if {l : Loc} {i a m size : Nat} : (if m = a then some (l.addr i) else (some (l.addr i)).map (·.add (a * size))) = some (l.addr (bif Nat.beq a m then i else i + a * size)) := by
  by_cases e : m = a
  · subst e; simp
  · have : Nat.beq a m = false := by
      rw [← Bool.not_eq_true]; exact fun hb => e (Nat.eq_of_beq_eq_true hb).symm
    rw [if_neg e, this, Option.map_some, Loc.addr_add]
    rfl

theorem sliceKnown_ok {P : Program} (isS : Bool) {size b i len c : Nat} {l : Loc} {v : AV} (hl : φ b = some l) (hlen : len ≤ c) (hc : c < unk) (h : sliceKnown tm size b i len c lo hi mx = some v) :
    ∃ a h' m, (Instr.sliceBounds isS len c (lo.map ρ) (hi.map ρ) (mx.map ρ)).run P w = .ok (a, h', m) w ∧
      VRel φ v (.slice (if m = a then some (l.addr i) else (some (l.addr i)).map (·.add (a * size))) (h' - a) (m - a)) := by
  unfold sliceKnown at h
  split at h
  · split at h
    · rename_i b' hb
      split at h
      · rename_i a ha
        cases h
        obtain ⟨r, h1, h2, h3⟩ := bounds2 (P := P) w ho (isS := isS) hb ha
        refine ⟨a, b', c, r, ?_⟩
        rw [Loc.add_if]
        refine .slice _ _ _ _ l _ hl ?_ (fun _ => rfl) (fun hx => by omega)
        by_cases e : hi = none
        · have := h3 e; omega
        · have := h2 e; omega
      · cases h
    · cases h
  · rename_i x
    split at h
    · rename_i y
      split at h
      · rename_i m hm
        split at h
        · rename_i h' hh
          split at h
          · rename_i a ha
            cases h
            obtain ⟨r, h1, h2, h3⟩ := bounds3 (P := P) w ho (isS := isS) (len := len) hm hh ha
            refine ⟨a, h', m, r, ?_⟩
            rw [Loc.add_if]
            exact .slice _ _ _ _ l _ hl (by omega) (fun _ => rfl) (fun hx => by omega)
          · cases h
        · cases h
      · cases h
    · cases h

theorem sliceLoose_ok {P : Program} {size b i len c cap' : Nat} {l : Loc} {v : AV} (hl : φ b = some l) (hlen : len ≤ cap') (hc : c ≤ cap') (hfit : i + cap' * l.esz ≤ l.room) (hs : size = l.esz)
    (hunk : c < unk) (h : sliceLoose tm size b i len c lo hi mx = some v) :
    ∃ a h' m, (Instr.sliceBounds true len cap' (lo.map ρ) (hi.map ρ) (mx.map ρ)).run P w = .ok (a, h', m) w ∧
      VRel φ v (.slice (if m = a then some (l.addr i) else (some (l.addr i)).map (·.add (a * size))) (h' - a) (m - a)) := by
  unfold sliceLoose at h
  split at h
  · split at h
    · rename_i b' hb
      split at h
      · rename_i a ha
        cases h
        obtain ⟨r, h1, h2, h3⟩ := bounds2 (P := P) w ho (isS := true) (optI_mono hb hc) ha
        have hb' : b' ≤ cap' := by
          by_cases e : hi = none
          · have := h3 e; omega
          · have := h2 e; omega
        refine ⟨a, b', cap', r, ?_⟩
        by_cases e : cap' = a
        · subst e
          rw [if_pos rfl, show b' - cap' = 0 by omega, show cap' - cap' = 0 by omega, show c - cap' = 0 by omega, Nat.add_zero]
          exact .sliceE _ _ _
        · rw [if_neg e, Option.map_some, Loc.addr_add]
          refine .slice _ _ _ _ l _ hl (by omega) (fun hx => by omega) (fun _ => ⟨by omega, ?_⟩)
          rw [hs, Nat.sub_mul]
          have : a * l.esz ≤ cap' * l.esz := Nat.mul_le_mul_right _ (by omega)
          omega
      · cases h
    · cases h
  · rename_i x
    split at h
    · rename_i y
      split at h
      · rename_i m hm
        split at h
        · rename_i h' hh
          split at h
          · rename_i a ha
            cases hb : Nat.beq a m
            · rw [hb, cond_false] at h
              cases h
              have hm' : optI tm (some x) cap' cap' = some m := by
                have := optI_mono hm hc
                unfold optI at this ⊢
                exact this
              obtain ⟨r, h1, h2, h3⟩ := bounds3 (P := P) w ho (isS := true) (len := len) hm' hh ha
              have hmc : m ≤ c := (optI_ok (P := P) w ho (code := .slice3Acap) hm).2.2 (by simp)
              refine ⟨a, h', m, r, ?_⟩
              rw [Loc.add_if, hb]
              exact .slice _ _ _ _ l _ hl (by omega) (fun _ => rfl) (fun hx => by omega)
            · rw [hb] at h; cases h
          · cases h
        · cases h
      · cases h
    · cases h

theorem sliceE_ok {P : Program} {size b i : Nat} {v : AV} (h : sliceLoose tm size b i 0 0 lo hi mx = some v) :
    (∃ j, v = .slice b j 0 unk) ∧ (Instr.sliceBounds true 0 0 (lo.map ρ) (hi.map ρ) (mx.map ρ)).run P w = .ok (0, 0, 0) w := by
  unfold sliceLoose at h
  split at h
  · split at h
    · rename_i b' hb
      split at h
      · rename_i a ha
        cases h
        obtain ⟨r, h1, h2, h3⟩ := bounds2 (P := P) w ho (isS := true) hb ha
        have hb0 : b' = 0 := by
          by_cases e : hi = none
          · exact h3 e
          · have := h2 e; omega
        have ha0 : a = 0 := by omega
        subst hb0 ha0
        exact ⟨⟨_, rfl⟩, r⟩
      · cases h
    · cases h
  · split at h
    · split at h
      · rename_i m hm
        split at h
        · rename_i h' hh
          split at h
          · rename_i a ha
            obtain ⟨r, h1, h2, h3⟩ := bounds3 (P := P) w ho (isS := true) (len := 0) hm hh ha
            have hm0 : m = 0 := by omega
            have ha0 : a = 0 := by omega
            subst hm0 ha0
            cases h
          · cases h
        · cases h
      · cases h
    · cases h

theorem sliceNil_ok {P : Program} {v : AV} (h : sliceNil tm lo hi mx = some v) : v = .snil ∧ (Instr.sliceBounds true 0 0 (lo.map ρ) (hi.map ρ) (mx.map ρ)).run P w = .ok (0, 0, 0) w := by
  unfold sliceNil at h
  split at h
  · cases h
  · rename_i hn
    split at h
    · rename_i m hm
      split at h
      · rename_i b hb
        split at h
        · rename_i a ha
          cases h
          refine ⟨rfl, ?_⟩
          cases mx with
          | none =>
            obtain ⟨r, h1, h2, h3⟩ := bounds2 (P := P) w ho (isS := true) hb (show optI tm lo b 0 = some a by
              have : b = 0 := by
                have := (optI_ok (P := P) w ho (code := .sliceAcap) hb)
                by_cases e : hi = none
                · exact this.2.1 e
                · have := this.2.2 e; omega
              rw [this]; exact ha)
            have hb0 : b = 0 := by
              by_cases e : hi = none
              · exact h3 e
              · have := h2 e; omega
            have ha0 : a = 0 := by omega
            subst hb0 ha0
            exact r
          | some x =>
            cases hi with
            | none => exact absurd rfl (hn x rfl)
            | some y =>
              have hm0 : m = 0 := by have := (optI_ok (P := P) w ho (code := .sliceAcap) hm).2.2 (by simp); omega
              have hb0 : b = 0 := by have := (optI_ok (P := P) w ho (code := .sliceAcap) hb).2.2 (by simp); omega
              subst hm0 hb0
              obtain ⟨r, h1, h2, h3⟩ := bounds3 (P := P) w ho (isS := true) (len := 0) hm hb ha
              have ha0 : a = 0 := by omega
              subst ha0
              exact r
        · cases h
      · cases h
    · cases h

end slices
end Go.Proofs.Ytcpffiihdnecjaa.Ev
