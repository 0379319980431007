/- The evaluator: operators, conversions, slices. -/
import Derived.Test.YtcpffiihdnecjaaEv7
namespace Go.Proofs.Ytcpffiihdnecjaa.Ev
set_option linter.unusedSectionVars false
set_option linter.unusedSimpArgs false
set_option linter.unusedVariables false
open Go

theorem binOp_eq {P : Program} (w : World) (op : BinOp) (hop : op = .eql ∨ op = .neq) (t : TypeId) (u v : Value) (b : Bool) (h1 : ∀ k m k' n, u = .int k m → v = .int k' n → False)
    (h2 : ∀ s r, u = .string s → v = .string r → False) (h3 : ∀ k m, u ≠ .float k m) (h4 : ∀ k m n, u ≠ .complex k m n) (h : (Op.equal t u v).run P w = .ok b w) :
    (binOp op t u v).run P w = .ok (.bool (if op = .eql then b else !b)) w := by
  rcases hop with rfl | rfl
  · unfold binOp
    split <;> first
      | (exact (h1 _ _ _ _ rfl rfl).elim)
      | (exact (h2 _ _ rfl rfl).elim)
      | (exact absurd rfl (h3 _ _))
      | (exact absurd rfl (h4 _ _ _))
      | (simp only [Sem.run_bind, h, Result.andThen_ok, if_true]; rfl)
      | (rename_i e; cases e; done)
      | skip
    all_goals first
      | (simp_all; done)
      | contradiction
  · unfold binOp
    split <;> first
      | (exact (h1 _ _ _ _ rfl rfl).elim)
      | (exact (h2 _ _ rfl rfl).elim)
      | (exact absurd rfl (h3 _ _))
      | (exact absurd rfl (h4 _ _ _))
      | (simp only [Sem.run_bind, h, Result.andThen_ok]; rfl)
      | (rename_i e; cases e; done)
      | skip
    all_goals first
      | (simp_all; done)
      | contradiction

theorem VRel.int_inv {φ : Emb} {x : AV} {k : IntKind} {n : Int} (h : VRel φ x (.int k n)) : x = .int k n := by cases h; rfl
theorem VRel.no_float {φ : Emb} {x : AV} {k : FloatKind} {n : Nat} (h : VRel φ x (.float k n)) : False := by cases h
theorem VRel.no_complex {φ : Emb} {x : AV} {k : FloatKind} {m n : Nat} (h : VRel φ x (.complex k m n)) : False := by cases h
theorem VRel.string_inv {φ : Emb} {x : AV} {s : ByteArray} (h : VRel φ x (.string s)) : x = .str s.size (packL s.data.toList) := by cases h; rfl
theorem VRel.inil_inv {φ : Emb} {x : AV} (h : VRel φ x .nilIface) : x = .inil := by cases h; rfl
theorem VRel.agg_inv {φ : Emb} {x : AV} {us : Array Value} (h : VRel φ x (.agg us)) : ∃ xs, x = .agg xs := by cases h; exact ⟨_, rfl⟩

theorem eqOp_ok {V : Env} (hV : EnvOk V) (w : World) {φ : Emb} {op : BinOp} {t : TypeId} {a b : AV} {u v : Value} {r : AV} (ha : VRel φ a u) (hb : VRel φ b v)
    (h1 : ∀ k m k' n, a = .int k m → b = .int k' n → False) (h2 : ∀ l n l' n', a = .str l n → b = .str l' n' → False) (h : eqOp op (eqA V.E V.P 20 t a b) = some r) :
    ∃ q, (binOp op t u v).run V.P w = .ok q w ∧ VRel φ r q := by
  have key : ∀ c, eqA V.E V.P 20 t a b = some c → (Op.equal t u v).run V.P w = .ok c w := fun c hc => eqA_ok hV w 20 Op.maxDepth t a b u v c (by decide) ha hb hc
  have c1 : ∀ k m k' n, u = .int k m → v = .int k' n → False := fun k m k' n e e' => by subst e e'; exact h1 _ _ _ _ ha.int_inv hb.int_inv
  have c2 : ∀ s r, u = .string s → v = .string r → False := fun s r e e' => by subst e e'; exact h2 _ _ _ _ ha.string_inv hb.string_inv
  have c3 : ∀ k m, u ≠ .float k m := fun k m e => by subst e; exact ha.no_float
  have c4 : ∀ k m n, u ≠ .complex k m n := fun k m n e => by subst e; exact ha.no_complex
  unfold eqOp at h
  split at h
  · split at h
    · rename_i c hc
      cases h
      exact ⟨_, binOp_eq w .eql (.inl rfl) t u v c c1 c2 c3 c4 (key c hc), .bool _⟩
    · cases h
  · split at h
    · rename_i c hc
      cases h
      exact ⟨_, binOp_eq w .neq (.inr rfl) t u v c c1 c2 c3 c4 (key c hc), .bool _⟩
    · cases h
  · cases h

theorem binA_ok {V : Env} (hV : EnvOk V) (w : World) {φ : Emb} {op : BinOp} {t : TypeId} {x y : Operand} {a b : AV} {u v : Value} {r : AV} (ha : VRel φ a u) (hb : VRel φ b v)
    (h : binA V.E V.P op t x y a b = some r) : ∃ q, (do eqGuard op t x y u v; binOp op t u v).run V.P w = .ok q w ∧ VRel φ r q := by
  unfold binA at h
  split at h
  · rename_i k m k' n
    cases ha
    cases hb
    rw [Sem.run_bind, eqGuard_plain op t x y _ _ w (.inl (by simp)) (.inl (by simp)), Result.andThen_ok]
    unfold intOp at h
    split at h
    · exact shiftK_ok .shl k k' m n r φ w h
    · exact shiftK_ok .shr k k' m n r φ w h
    · rename_i hs1 hs2
      split at h
      · rename_i hk
        subst hk
        exact arithK_ok op t k m n r φ w ⟨hs1, hs2⟩ h
      · cases h
  · cases ha
    cases hb
    rw [Sem.run_bind, eqGuard_plain op t x y _ _ w (.inl (by simp)) (.inl (by simp)), Result.andThen_ok]
    obtain ⟨q, hq, hr⟩ := strOp_ok (P := V.P) op _ _ r φ w h
    refine ⟨q, ?_, hr⟩
    cases op <;> exact hq
  · cases hc : (isC x || isC y)
    · rw [hc] at h; cases h
    · rw [hc, cond_true] at h
      obtain ⟨q, hq, hr⟩ := eqOp_ok hV w ha hb (fun _ _ _ _ e => by cases e) (fun _ _ _ _ e => by cases e) h
      refine ⟨q, ?_, hr⟩
      cases ha
      cases hb
      rw [Sem.run_bind]
      have : (eqGuard op t x y .nilIface .nilIface).run V.P w = .ok () w := by
        unfold eqGuard
        cases op <;> simp
        all_goals (cases x <;> simp [isC] at hc ⊢ <;> cases y <;> simp [isC] at hc ⊢)
      rw [this, Result.andThen_ok]
      exact hq
  · cases hc : V.P.eqGuardType V.P.depth t
    · rw [hc, cond_false] at h
      obtain ⟨q, hq, hr⟩ := eqOp_ok hV w ha hb (fun _ _ _ _ e => by cases e) (fun _ _ _ _ e => by cases e) h
      refine ⟨q, ?_, hr⟩
      cases ha
      cases hb
      rw [Sem.run_bind, run_eqGuard_agg w op t x y _ _ hc, Result.andThen_ok]
      exact hq
    · rw [hc] at h; cases h
  · rename_i n1 n2 n3 n4
    obtain ⟨q, hq, hr⟩ := eqOp_ok hV w ha hb (fun _ _ _ _ e e' => n1 _ _ _ _ e e') (fun _ _ _ _ e e' => n2 _ _ _ _ e e') h
    refine ⟨q, ?_, hr⟩
    rw [Sem.run_bind, eqGuard_plain op t x y _ _ w ?_ ?_, Result.andThen_ok]
    · exact hq
    · by_cases e : u = .nilIface
      · right
        intro e'
        subst e e'
        exact n3 ha.inil_inv hb.inil_inv
      · exact .inl e
    · by_cases e : ∃ xs, u = .agg xs
      · obtain ⟨xs, rfl⟩ := e
        right
        intro ys e'
        subst e'
        obtain ⟨zs, hz⟩ := ha.agg_inv
        obtain ⟨zs', hz'⟩ := hb.agg_inv
        exact n4 _ _ hz hz'
      · exact .inl fun xs e' => e ⟨xs, e'⟩

theorem unA_ok {P : Program} (w : World) {φ : Emb} {op : UnOp} {a : AV} {u : Value} {r : AV} (ha : VRel φ a u) (h : unA op a = some r) :
    ∃ q, (Op.unary op u).run P w = .ok q w ∧ VRel φ r q := by
  unfold unA at h
  split at h
  · cases h
    cases ha
    exact ⟨_, rfl, by rw [wr_eq]; exact .int _ _⟩
  · rename_i k n
    cases ha
    split at h
    · rename_i m hm
      cases h
      exact ⟨_, by simp only [Op.unary]; exact bitsK_eq _ _ _ _ _ hm w, .int _ _⟩
    · cases h
  · cases h
    cases ha
    exact ⟨_, rfl, .bool _⟩
  · cases h

-- slices

theorem boundI_ok {P : Program} (w : World) {φ : Emb} {v : AV} {u : Value} {y i : Nat} {code : BoundsCode} (hv : VRel φ v u) (h : boundI v y = some i) : (Instr.sliceBound u y code).run P w = .ok i w ∧ i ≤ y := by
  unfold boundI at h
  split at h
  · rename_i k j
    cases hv
    cases hc : Nat.ble j y
    · rw [hc] at h; cases h
    · rw [hc, cond_true] at h
      cases h
      have hle := Nat.le_of_ble_eq_true hc
      refine ⟨?_, hle⟩
      simp only [Instr.sliceBound, asIntOf, Sem.run_bind, Sem.run_pure, Result.andThen_ok]
      rw [if_pos ⟨by simp, by simp only [Int.ofNat_eq_natCast]; omega⟩]
      rfl
  · cases h

/-- An operand that may be missing: its bound, or what stands for it. -/
theorem optI_ok {P : Program} (w : World) {φ : Emb} {tm : T AV} {ρ : Operand → Value} (ho : OpRel φ tm ρ) {o : Option Operand} {y d i : Nat} {code : BoundsCode} (h : optI tm o y d = some i) :
    (match o.map ρ with
      | some v => Instr.sliceBound v y code
      | none => (pure d : Sem Nat)).run P w = .ok i w ∧ (o = none → i = d) ∧ (o ≠ none → i ≤ y) := by
  unfold optI at h
  split at h
  · cases h; exact ⟨rfl, fun _ => rfl, fun h => absurd rfl h⟩
  · rename_i x
    split at h
    · rename_i v hv
      obtain ⟨h1, h2⟩ := boundI_ok (P := P) w (code := code) (ho _ _ hv) h
      exact ⟨h1, fun e => by (cases e), fun _ => h2⟩
    · cases h

/-- The bounds of a slice expression without a third index. -/
theorem bounds2 {P : Program} (w : World) {φ : Emb} {tm : T AV} {ρ : Operand → Value} (ho : OpRel φ tm ρ) {lo hi : Option Operand} {isS : Bool} {len cap h a : Nat}
    (h1 : optI tm hi cap len = some h) (h2 : optI tm lo h 0 = some a) : (Instr.sliceBounds isS len cap (lo.map ρ) (hi.map ρ) none).run P w = .ok (a, h, cap) w ∧ a ≤ h ∧ (hi ≠ none → h ≤ cap) ∧ (hi = none → h = len) := by
  obtain ⟨r1, e1, e1'⟩ := optI_ok (P := P) w ho (code := if isS then .sliceAcap else .sliceAlen) h1
  obtain ⟨r2, e2, e2'⟩ := optI_ok (P := P) w ho (code := .sliceB) h2
  refine ⟨?_, ?_, e1', e1⟩
  · cases hi with
    | none =>
      obtain rfl := e1 rfl
      cases lo with
      | none => cases e2 rfl; rfl
      | some x =>
        have r2 : (Instr.sliceBound (ρ x) _ .sliceB).run P w = .ok a w := r2
        simp only [Option.map_some, Option.map_none, Instr.sliceBounds, Sem.run_bind, Sem.run_pure, Result.andThen_ok, Option.isSome_none, Bool.false_eq_true, if_false, r2]
    | some z =>
      have r1 : (Instr.sliceBound (ρ z) cap (if isS = true then .sliceAcap else .sliceAlen)).run P w = .ok h w := r1
      cases lo with
      | none =>
        cases e2 rfl
        simp only [Option.map_some, Option.map_none, Instr.sliceBounds, Sem.run_bind, Sem.run_pure, Result.andThen_ok, Option.isSome_none, Bool.false_eq_true, if_false, r1]
      | some x =>
        have r2 : (Instr.sliceBound (ρ x) h .sliceB).run P w = .ok a w := r2
        simp only [Option.map_some, Instr.sliceBounds, Sem.run_bind, Sem.run_pure, Result.andThen_ok, Option.isSome_none, Bool.false_eq_true, if_false, r1, r2]
  · by_cases e : lo = none
    · rw [e2 e]; omega
    · exact e2' e

/-- With a third index. -/
theorem bounds3 {P : Program} (w : World) {φ : Emb} {tm : T AV} {ρ : Operand → Value} (ho : OpRel φ tm ρ) {lo : Option Operand} {hi mx : Operand} {isS : Bool} {len cap m h a : Nat}
    (h0 : optI tm (some mx) cap cap = some m) (h1 : optI tm (some hi) m 0 = some h) (h2 : optI tm lo h 0 = some a) :
    (Instr.sliceBounds isS len cap (lo.map ρ) (some (ρ hi)) (some (ρ mx))).run P w = .ok (a, h, m) w ∧ a ≤ h ∧ h ≤ m ∧ m ≤ cap := by
  obtain ⟨r0, _, e0⟩ := optI_ok (P := P) w ho (code := if isS then .slice3Acap else .slice3Alen) h0
  obtain ⟨r1, _, e1⟩ := optI_ok (P := P) w ho (code := .slice3B) h1
  obtain ⟨r2, e2, e2'⟩ := optI_ok (P := P) w ho (code := .slice3C) h2
  have r0 : (Instr.sliceBound (ρ mx) cap (if isS = true then .slice3Acap else .slice3Alen)).run P w = .ok m w := r0
  have r1 : (Instr.sliceBound (ρ hi) m .slice3B).run P w = .ok h w := r1
  refine ⟨?_, ?_, e1 (by simp), e0 (by simp)⟩
  · simp only [Instr.sliceBounds, Sem.run_bind, r0, r1, Result.andThen_ok, Option.isSome_some, if_true]
    cases lo with
    | none => cases e2 rfl; rfl
    | some x =>
      have r2 : (Instr.sliceBound (ρ x) h .slice3C).run P w = .ok a w := r2
      simp only [Option.map_some, Sem.run_bind, r2, Result.andThen_ok]
      rfl
  · by_cases e : lo = none
    · rw [e2 e]; omega
    · exact e2' e

end Go.Proofs.Ytcpffiihdnecjaa.Ev
