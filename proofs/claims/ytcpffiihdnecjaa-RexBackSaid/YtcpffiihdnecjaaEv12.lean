/- The evaluator: all that only computes or reads, operation by operation. -/
import Derived.Test.YtcpffiihdnecjaaEv11
namespace Go.Proofs.Ytcpffiihdnecjaa.Ev
set_option linter.unusedSectionVars false
set_option linter.unusedSimpArgs false
set_option linter.unusedVariables false
open Go

theorem fV_val {x : Option AV} {v : AV} (h : fV x = .val v) : x = some v := by
  unfold fV at h
  split at h
  · cases h; rfl
  · cases h

theorem fV_row {x : Option AV} {v : AV} {r : Row} (h : fV x = .row v r) : False := by
  unfold fV at h
  split at h <;> cases h

theorem val_run {P : Program} {s : Sem Value} {u : Value} {w w' : World} (h : s.run P w = .ok u w') : (s >>= fun x => (pure (Next.value x) : Sem Next)).run P w = .ok (.value u) w' := by
  rw [bind_ok h]; rfl

theorem VsRel.of_get {φ : Emb} : ∀ {xs : List AV} {us : List Value}, xs.length = us.length → (∀ (i : Nat) (x : AV), xs[i]? = some x → ∃ u, us[i]? = some u ∧ VRel φ x u) → VsRel φ xs us
  | [], [], _, _ => .nil
  | [], _ :: _, h, _ => by simp at h
  | _ :: _, [], h, _ => by simp at h
  | x :: xs, u :: us, h, k => by
    obtain ⟨u', h1, h2⟩ := k 0 x rfl
    simp only [List.getElem?_cons_zero, Option.some.injEq] at h1
    subst h1
    exact .cons _ _ _ _ h2 (VsRel.of_get (by simpa using h) fun i y hy => by
      have := k (i + 1) y (by simpa using hy)
      simpa using this)

theorem zip_write (off : Nat) : ∀ (l : List Value) (k : Nat) (cs : Array Value), (l.zipIdx k).foldl (fun cs (p : Value × Nat) => cs.setIfInBounds (off + p.2) p.1) cs = writeAt cs (off + k) l
  | [], k, cs => rfl
  | v :: l, k, cs => by
    rw [List.zipIdx_cons, List.foldl_cons, zip_write off l (k + 1)]
    rfl

theorem lay_rel {φ : Emb} {cs vs : List AV} {ws : List Value} {c : Array Value} {off : Nat} (hc : VsRel φ cs c.toList) (hv : VsRel φ vs ws) (h : off + vs.length ≤ cs.length) :
    VsRel φ (layCells cs off vs) (writeAt c off ws).toList := by
  have hl := hc.length
  have hw := hv.length
  simp only [Array.length_toList] at hl
  refine VsRel.of_get ?_ fun i x hx => ?_
  · rw [show (writeAt c off ws).toList.length = (writeAt c off ws).size from Array.length_toList, writeAt_size]
    simp only [layCells, List.length_append, List.length_take, List.length_drop]
    omega
  · rw [Array.getElem?_toList, writeAt_get _ _ _ (by omega)]
    unfold layCells at hx
    by_cases h1 : i < off
    · rw [if_neg (by omega)]
      rw [List.append_assoc, List.getElem?_append_left (by simp; omega), List.getElem?_take_of_lt h1] at hx
      obtain ⟨u, hu, hr⟩ := hc.get _ _ hx
      rw [Array.getElem?_toList] at hu
      exact ⟨u, hu, hr⟩
    · by_cases h2 : i < off + vs.length
      · rw [if_pos (by omega)]
        rw [List.append_assoc, List.getElem?_append_right (by simp; omega), List.getElem?_append_left (by simp; omega)] at hx
        have e : i - (cs.take off).length = i - off := by simp; omega
        rw [e] at hx
        exact hv.get _ _ hx
      · rw [if_neg (by omega)]
        rw [List.getElem?_append_right (by simp; omega), List.getElem?_drop] at hx
        have e : off + vs.length + (i - (cs.take off ++ vs).length) = i := by simp; omega
        rw [e] at hx
        obtain ⟨u, hu, hr⟩ := hc.get _ _ hx
        rw [Array.getElem?_toList] at hu
        exact ⟨u, hu, hr⟩

theorem fill_ok {φ : Emb} {tm : T AV} {ρ : Operand → Value} (ho : OpRel φ tm ρ) {pl pl' : Nat → Option (Nat × Nat)} (hp : ∀ i x, pl i = some x → pl' i = some x) :
    ∀ (l : List (Nat × Operand)) (cs cs' : List AV) (c : Array Value), VsRel φ cs c.toList → fillA tm pl cs l = some cs' → ∃ c', Instr.fill pl' c (l.map fun p => (p.1, ρ p.2)) = some c' ∧ VsRel φ cs' c'.toList
  | [], cs, cs', c, hc, h => by cases h; exact ⟨c, rfl, hc⟩
  | (i, x) :: l, cs, cs', c, hc, h => by
    unfold fillA at h
    split at h
    · rename_i off size hi
      split at h
      · rename_i v hv
        simp only at h
        cases hcond : (Nat.beq v.cells.length size && Nat.ble (off + size) cs.length)
        · rw [hcond] at h; cases h
        · rw [hcond, cond_true] at h
          simp only [Bool.and_eq_true] at hcond
          have c1 := Nat.eq_of_beq_eq_true hcond.1
          have c2 := Nat.le_of_ble_eq_true hcond.2
          have hr := ho _ _ hv
          have hrc := hr.cells
          have hl1 := hrc.length
          have hl2 := hc.length
          simp only [Array.length_toList] at hl1 hl2
          obtain ⟨c', h1, h2⟩ := fill_ok ho hp l _ cs' (writeAt c off (ρ x).cells.toList) (lay_rel hc hrc (by omega)) h
          refine ⟨c', ?_, h2⟩
          simp only [List.map_cons, Instr.fill, hp _ _ hi]
          have hno : ¬ (((ρ x).cells.size ≠ size || decide (off + (ρ x).cells.size > c.size)) = true) := by
            simp; omega
          rw [if_neg hno, ← h1]
          congr 1
          rw [← Array.foldl_toList, Array.toList_zipIdx, zip_write off _ 0 c, Nat.add_zero]
      · cases h
    · cases h

section
variable {V : Env} (hV : EnvOk V) {G N : Nat} {φ : Emb} {M : Mem} {w : World} {tm : T AV} {ρ : Operand → Value} (ho : OpRel φ tm ρ)
include hV

theorem zero_ok {t : TypeId} {z : AV} (h : V.E.zero t = some z) (w : World) : ∃ u, (zeroValue t).run V.P w = .ok u w ∧ ∀ φ, VRel φ z u := by
  unfold Tab.zero at h
  split at h
  · rename_i i hi
    split at h
    · rename_i u hu
      refine ⟨u, ?_, fun φ => ofVal_rel 4 u z h⟩
      simp only [zeroValue, Sem.run_bind, typeInfo_ok hV w hi, Result.andThen_ok, hu]
      rfl
    · cases h
  · cases h

theorem places_ok : ∀ (fs : List Field), sizesOk V fs = true → ∃ ps : List (Nat × Nat), (fs.mapM fun (f : Field) => (do pure (f.offset, ← sizeOf f.type) : Sem (Nat × Nat))).run V.P w = .ok ps w ∧
    ∀ i : Nat, ps[i]? = (fs[i]?).bind fun (f : Field) => (V.E.size f.type).map fun n => (f.offset, n)
  | [], _ => ⟨[], rfl, fun i => by simp⟩
  | f :: fs, h => by
    unfold sizesOk at h
    split at h
    · rename_i n hn
      obtain ⟨ps, h1, h2⟩ := places_ok fs h
      refine ⟨(f.offset, n) :: ps, ?_, fun i => ?_⟩
      · simp only [List.mapM_cons, Sem.run_bind, (size_of' hV w hn).2, Result.andThen_ok, Sem.run_pure, h1]
      · cases i with
        | zero => simp [hn]
        | succ i => simp [h2]
    · cases h

include ho

theorem build_ok {t : TypeId} {parts : Array (Nat × Operand)} {v : AV} (h : fBuild V tm t parts = .val v) :
    ∃ u, (Instr.build t (parts.map fun (i, x) => (i, ρ x))).run V.P w = .ok u w ∧ VRel φ v u := by
  unfold fBuild at h
  split at h
  · rename_i z hz
    obtain ⟨zu, hzr, hzv⟩ := zero_ok hV hz w
    have hmap : (parts.map fun (i, x) => (i, ρ x)).toList = parts.toList.map fun p => (p.1, ρ p.2) := by simp
    split at h
    · rename_i fs hu
      cases hs : sizesOk V fs.toList
      · rw [hs] at h; cases h
      · rw [hs, cond_true] at h
        obtain ⟨ps, hp1, hp2⟩ := places_ok (w := w) hV fs.toList hs
        unfold fAgg at h
        split at h
        · rename_i cs hcs
          cases h
          obtain ⟨c', h1, h2⟩ := fill_ok ho (pl' := fun i => ps.toArray[i]?) (fun i x hx => by
            rw [List.getElem?_toArray, hp2]
            unfold fieldAt at hx
            split at hx
            · rename_i f hf
              split at hx
              · rename_i n hn
                cases hx
                rw [Array.getElem?_toList, hf]
                simp [hn]
              · cases hx
            · cases hx) _ _ _ _ (hzv φ).cells hcs
          refine ⟨.agg c', ?_, .agg _ _ h2⟩
          simp only [Instr.build, Sem.run_bind, hzr, Result.andThen_ok, run_underlying (und_of hV hu)]
          have hm : (fs.mapM fun (f : Field) => (do pure (f.offset, ← sizeOf f.type) : Sem (Nat × Nat))).run V.P w = .ok ps.toArray w := by
            rw [Array.mapM_eq_mapM_toList]
            have : ∀ (s : Sem (List (Nat × Nat))), s.run V.P w = .ok ps w → (List.toArray <$> s).run V.P w = .ok ps.toArray w := by
              intro s hs
              show (s.bind _).run V.P w = _
              have := bind_ok (P := V.P) (f := fun x => (pure (List.toArray x) : Sem (Array (Nat × Nat)))) hs
              exact this
            exact this _ hp1
          rw [hm, hmap]
          simp only [Result.andThen_ok, h1]
          rfl
        · cases h
    · rename_i n e hu
      split at h
      · rename_i s hs
        unfold fAgg at h
        split at h
        · rename_i cs hcs
          cases h
          obtain ⟨c', h1, h2⟩ := fill_ok ho (pl' := fun i => some (i * s, s)) (fun i x hx => hx) _ _ _ _ (hzv φ).cells hcs
          refine ⟨.agg c', ?_, .agg _ _ h2⟩
          simp only [Instr.build, Sem.run_bind, hzr, Result.andThen_ok, run_underlying (und_of hV hu), (size_of' hV w hs).2, hmap, h1]
          rfl
        · cases h
      · cases h
    · cases h
  · cases h

end
end Go.Proofs.Ytcpffiihdnecjaa.Ev
