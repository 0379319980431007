/- The evaluator: copy, bytes of strings, lengths of maps, strings of bytes. -/
import Derived.Test.YtcpffiihdnecjaaEv16
namespace Go.Proofs.Ytcpffiihdnecjaa.Ev
set_option linter.unusedSectionVars false
set_option linter.unusedSimpArgs false
set_option linter.unusedVariables false
open Go

theorem byte_cells (s : ByteArray) : (s.data.map fun b => Value.int .u8 b.toNat).toList = s.data.toList.map byteV := by
  rw [Array.toList_map]; rfl

theorem unpackA_prefix : ∀ (k n m : Nat), n % 256 ^ k = m % 256 ^ k → unpackA k n = unpackA k m
  | 0, _, _, _ => rfl
  | k + 1, n, m, h => by
    have h1 : n % 256 = m % 256 := by
      have a := Nat.mod_mod_of_dvd n (Nat.dvd_mul_left 256 (256 ^ k))
      have b := Nat.mod_mod_of_dvd m (Nat.dvd_mul_left 256 (256 ^ k))
      rw [← Nat.pow_succ] at a b
      rw [← a, ← b, h]
    have h2 : n / 256 % 256 ^ k = m / 256 % 256 ^ k := by
      rw [Nat.pow_succ, Nat.mul_comm, Nat.mod_mul, Nat.mod_mul, h1] at h
      have := Nat.eq_of_mul_eq_mul_left (by decide : 0 < 256) (Nat.add_left_cancel h)
      exact this
    unfold unpackA
    rw [h1, unpackA_prefix k _ _ h2]

theorem unpackA_take (φ : Emb) (l : List UInt8) (n : Nat) (h : n ≤ l.length) : VsRel φ (unpackA n (packL l)) ((l.take n).map byteV) := by
  have h1 := unpackA_rel φ (l.take n)
  rw [List.length_take, Nat.min_eq_left h] at h1
  rw [unpackA_prefix n (packL l) (packL (l.take n)) (by rw [packL_take l n h, Nat.mod_mod])]
  exact h1

section
variable {V : Env} (hV : EnvOk V) {N : Nat} {φ : Emb} {M : Mem} {w : World} (R : Rep V.P V.G N φ M w) {tm : T AV} {ρ : Operand → Value} (ho : OpRel φ tm ρ)
include R

/-- Cells that a slice's first elements lie in. -/
theorem firstCells_sl {size : Nat} {x : AV} {u : Value} {b i len cap n : Nat} {cs : List AV} (hx : VRel φ (.slice b i len cap) u) (hn : n ≤ len) (h : M.loads b i (n * size) = some cs) :
    ∃ us : Array Value, (Builtin.firstCells size n u).run V.P w = .ok us w ∧ VsRel φ cs us.toList := by
  cases hx with
  | slice _ _ _ _ l cap' hl h0 h1 h2 =>
    obtain ⟨us, r1, r2⟩ := loads_run R hl h
    exact ⟨us.toArray, r1, by simpa using r2⟩
  | sliceE b i a =>
    have : n = 0 := by omega
    subst this
    rw [Nat.zero_mul] at h
    have : cs = [] := by
      unfold Mem.loads at h
      cases h
      rfl
    subst this
    exact ⟨#[], by simp only [Builtin.firstCells, Nat.zero_mul]; rfl, .nil⟩

theorem needCells_ok {size : Nat} {x : AV} {u : Value} {n : Nat} {cs : List AV} (hx : VRel φ x u) (h : needCells V size x M = some (n, cs)) :
    (Builtin.lenOf u).run V.P w = .ok n w ∧ ∃ us : Array Value, (Builtin.firstCells size n u).run V.P w = .ok us w ∧ VsRel φ cs us.toList := by
  unfold needCells at h
  split at h
  · rename_i b i len cap
    split at h
    · rename_i cs' hcs
      cases h
      refine ⟨?_, firstCells_sl R (x := .pnil) hx (Nat.le_refl _) hcs⟩
      cases hx <;> rfl
    · cases h
  · cases h
    cases hx
    exact ⟨rfl, #[], rfl, .nil⟩
  · rename_i l m
    cases hc : Nat.beq size 1
    · rw [hc] at h; cases h
    · rw [hc, cond_true] at h
      cases h
      cases hx with
      | str s =>
        refine ⟨rfl, _, rfl, ?_⟩
        rw [byte_cells, extract_list, Nat.sub_zero, List.drop_zero, List.take_of_length_le (by simp)]
        have := unpackA_rel φ s.data.toList
        have hs : s.data.toList.length = s.size := by simp
        rwa [hs] at this
  · cases h

theorem withSl_inv {s : AV} {x : Option Mem} {v : AV} {M' : Mem} (h : withSl s x = some (v, M')) : v = s ∧ x = some M' := by
  unfold withSl at h
  split at h
  · cases h; exact ⟨rfl, rfl⟩
  · cases h

include hV

theorem copyA_ok {e : TypeId} {d x : AV} {du xu : Value} {t t' : TypeId} {ts : Array TypeId} {v : AV} {M' : Mem} (ht : ts[0]? = some t) (hu : V.E.und t = some (.slice e)) (hd : VRel φ d du) (hx : VRel φ x xu)
    (h : copyA V M e d x = some (v, M')) : ∃ q w', (Builtin.copy_ ts t' #[du, xu]).run V.P w = .ok q w' ∧ VRel φ v q ∧ Rep V.P V.G N φ M' w' ∧ Kept N w w' ∧ Unm φ M M' := by
  have h0 : (#[du, xu] : Array Value)[0]? = some du := rfl
  have h1 : (#[du, xu] : Array Value)[1]? = some xu := rfl
  unfold copyA at h
  split at h
  · rename_i size hs
    have hsz := (size_of' hV w hs).2
    split at h
    · rename_i b i len cap
      have key : ∀ (n m : Nat) (us : Array Value) (cs : List AV), n = Nat.min m len → (Builtin.lenOf xu).run V.P w = .ok m w → (Builtin.firstCells size n xu).run V.P w = .ok us w → VsRel φ cs us.toList → M.stores V.G b i cs = some M' →
          (cap = unk → len = 0 → cs = []) →
          ∃ w', (Builtin.copy_ ts t' #[du, xu]).run V.P w = .ok (goInt n) w' ∧ Rep V.P V.G N φ M' w' ∧ Kept N w w' ∧ Unm φ M M' := by
        intro n m us cs hn hlen hfc hcs hst hE
        subst hn
        cases hd with
        | slice _ _ _ _ l cap' hl q0 q1 q2 =>
          obtain ⟨w', r1, r2, r3, r4⟩ := stores_rep R hl hst hcs
          refine ⟨w', ?_, r2, r3, r4⟩
          simp only [Builtin.copy_, ht, h0, h1, Sem.run_bind, run_underlying (und_of hV hu), Result.andThen_ok, hlen, hsz, hfc, r1]
          rfl
        | sliceE _ _ a =>
          have := hE rfl rfl
          subst this
          have hus : us = #[] := by
            cases us with
            | mk l => cases hcs; rfl
          subst hus
          cases hst
          refine ⟨w, ?_, R, .refl _ _, .refl _ _⟩
          simp only [Builtin.copy_, ht, h0, h1, Sem.run_bind, run_underlying (und_of hV hu), Result.andThen_ok, hlen, hsz, hfc]
          rfl
      split at h
      · rename_i b' i' len' cap'
        split at h
        · rename_i cs hcs
          obtain ⟨rfl, hst⟩ := withSl_inv R h
          obtain ⟨us, f1, f2⟩ := firstCells_sl R (x := .pnil) hx (Nat.min_le_left len' len) hcs
          obtain ⟨w', r1, r2, r3, r4⟩ := key _ len' us cs rfl (by cases hx <;> rfl) f1 f2 hst (fun _ h0 => by
            subst h0
            have : Nat.min len' 0 = 0 := Nat.min_zero _
            rw [this, Nat.zero_mul] at hcs
            cases hcs
            rfl)
          exact ⟨_, w', r1, .int _ _, r2, r3, r4⟩
        · cases h
      · cases h
        cases hx
        obtain ⟨w', r1, r2, r3, r4⟩ := key 0 0 #[] [] (by simp) rfl rfl .nil rfl (fun _ _ => rfl)
        exact ⟨_, w', r1, .int _ _, r2, r3, r4⟩
      · rename_i l m
        cases hc : Nat.beq size 1
        · rw [hc] at h; cases h
        · rw [hc, cond_true] at h
          obtain ⟨rfl, hst⟩ := withSl_inv R h
          cases hx with
          | str s =>
            have hrel : VsRel φ (unpackA (Nat.min s.size len) (packL s.data.toList)) ((s.extract 0 (Nat.min s.size len)).data.map fun b => Value.int .u8 b.toNat).toList := by
              rw [byte_cells, extract_list, Nat.sub_zero, List.drop_zero]
              have hs : s.data.toList.length = s.size := by simp
              have := unpackA_take φ s.data.toList (Nat.min s.size len) (by rw [hs]; exact Nat.min_le_left _ _)
              exact this
            obtain ⟨w', r1, r2, r3, r4⟩ := key (Nat.min s.size len) s.size _ _ rfl rfl rfl hrel hst (fun _ h0 => by
              subst h0
              have : Nat.min s.size 0 = 0 := Nat.min_zero _
              rw [this]
              rfl)
            exact ⟨_, w', r1, .int _ _, r2, r3, r4⟩
      · cases h
    · split at h
      all_goals first | (cases h; done) | skip
      all_goals
        cases h
        cases hd
      · rename_i b i len cap
        refine ⟨goInt 0, w, ?_, .int _ _, R, .refl _ _, .refl _ _⟩
        have hf : (Builtin.firstCells size 0 xu).run V.P w = .ok #[] w := by
          cases hx <;> simp only [Builtin.firstCells, Nat.zero_mul] <;> rfl
        have hl : (Builtin.lenOf xu).run V.P w = .ok len w := by cases hx <;> rfl
        simp only [Builtin.copy_, ht, h0, h1, Sem.run_bind, run_underlying (und_of hV hu), Result.andThen_ok, hl, hsz, Nat.min_zero, hf]
        rfl
      · cases hx
        refine ⟨goInt 0, w, ?_, .int _ _, R, .refl _ _, .refl _ _⟩
        simp only [Builtin.copy_, ht, h0, h1, Sem.run_bind, run_underlying (und_of hV hu), Result.andThen_ok, Builtin.lenOf, hsz, Sem.run_pure, Builtin.firstCells]
        rfl
      · cases hx with
        | str s =>
        refine ⟨goInt 0, w, ?_, .int _ _, R, .refl _ _, .refl _ _⟩
        simp only [Builtin.copy_, ht, h0, h1, Sem.run_bind, run_underlying (und_of hV hu), Result.andThen_ok, Builtin.lenOf, hsz, Sem.run_pure, Builtin.firstCells]
        have : Nat.min s.size 0 = 0 := Nat.min_zero _
        rw [this]
        rfl
    · cases h
  · cases h

end
end Go.Proofs.Ytcpffiihdnecjaa.Ev
