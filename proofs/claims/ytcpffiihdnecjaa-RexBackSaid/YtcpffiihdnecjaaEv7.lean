/- The evaluator: operators on values. -/
import Derived.Test.YtcpffiihdnecjaaEv6
namespace Go.Proofs.Ytcpffiihdnecjaa.Ev
set_option linter.unusedSectionVars false
set_option linter.unusedSimpArgs false
set_option linter.unusedVariables false
open Go

theorem eqFs_ok {V : Env} (hV : EnvOk V) (w : World) {φ : Emb} {eq : TypeId → AV → AV → Option Bool} {D : Nat}
    (heq : ∀ t x y u v b, VRel φ x u → VRel φ y v → eq t x y = some b → (Op.equalIn D t u v).run V.P w = .ok b w) {xs ys : List AV} {us vs : Array Value}
    (hx : VsRel φ xs us.toList) (hy : VsRel φ ys vs.toList) : ∀ (fs : List Field) (b : Bool), eqFs eq V.E xs ys fs = some b → (Op.eqFields D us vs fs).run V.P w = .ok b w
  | [], b, h => by cases h; rfl
  | f :: fs, b, h => by
    unfold eqFs at h
    unfold Op.eqFields
    by_cases hn : f.name = "_"
    · rw [decide_eq_true hn, cond_true] at h
      simp only [ne_eq, hn, not_true, if_false]
      exact eqFs_ok hV w heq hx hy fs b h
    · rw [decide_eq_false hn, cond_false] at h
      simp only [ne_eq, hn, not_false_eq_true, if_true]
      split at h
      · rename_i x hxp
        split at h
        · rename_i y hyp
          obtain ⟨u, hu, hxu⟩ := part_ok hV w hx hxp
          obtain ⟨v, hv, hyv⟩ := part_ok hV w hy hyp
          split at h
          · rename_i c hc
            have := heq _ _ _ _ _ _ hxu hyv hc
            simp only [Sem.run_bind, hu, hv, Result.andThen_ok, this]
            cases c
            · cases h; rfl
            · simp only [Bool.not_true, Bool.false_eq_true, if_false]
              exact eqFs_ok hV w heq hx hy fs b h
          · cases h
        · cases h
      · cases h

theorem eqA_ok {V : Env} (hV : EnvOk V) (w : World) {φ : Emb} : ∀ (d D : Nat) (t : TypeId) (x y : AV) (u v : Value) (b : Bool), d ≤ D → VRel φ x u → VRel φ y v → eqA V.E V.P d t x y = some b →
    (Op.equalIn D t u v).run V.P w = .ok b w
  | 0, _, _, _, _, _, _, _, _, _, _, h => by cases h
  | d + 1, 0, _, _, _, _, _, _, hd, _, _, _ => by omega
  | d + 1, D + 1, t, x, y, u, v, b, hd, hx, hy, h => by
    unfold eqA at h
    split at h
    · rename_i xs ys
      split at h
      · rename_i fs hu
        cases hs : V.P.stoodInHeld t
        · rw [hs, cond_false] at h
          cases hx with
          | agg _ us hxs =>
            cases hy with
            | agg _ vs hys =>
              have hu' := und_of hV hu
              have hf : V.P.fieldsOf t = fs := by simp [Program.fieldsOf, hu']
              rw [run_equalIn_struct w D t us vs (by rw [hf]; exact hu') hs, hf]
              exact eqFs_ok hV w (fun t x y u v b h1 h2 h3 => eqA_ok hV w d D t x y u v b (by omega) h1 h2 h3) hxs hys _ _ h
        · rw [hs] at h; cases h
      · cases h
    · rename_i a i c j
      split at h
      · rename_i e hu
        split at h
        · rename_i n hn
          cases hz : Nat.beq n 0
          · rw [hz, cond_false] at h
            cases hab : Nat.beq a c
            · rw [hab] at h; cases h
            · rw [hab, cond_true] at h
              cases h
              have hac := Nat.eq_of_beq_eq_true hab
              subst hac
              cases hx with
              | ptr _ _ l hl =>
                cases hy with
                | ptr _ _ l' hl' =>
                  rw [hl] at hl'
                  cases hl'
                  have hu' := und_of hV hu
                  have hn0 : n ≠ 0 := fun e => by subst e; simp at hz
                  have hsz := (size_of' hV w hn).2
                  simp only [Op.equalIn, Sem.run_bind, run_underlying hu', Result.andThen_ok, hsz, ne_eq, hn0, not_false_eq_true, if_true, sameAddr, Loc.addr, beq_self_eq_true]
                  show Result.ok _ w = _
                  congr 1
                  rw [Bool.eq_iff_iff]
                  simp only [beq_iff_eq, Addr.mk.injEq, and_true, true_and, Nat.beq_eq]
                  omega
          · rw [hz] at h; cases h
        · cases h
      · cases h
    · split at h
      · rename_i td htd
        exact eqPlain_ok hV w hx hy htd h D
      · cases h

theorem shiftK_ok {P : Program} (op : BinOp) (k yk : IntKind) (x y : Int) (v : AV) (φ : Emb) (w : World) (h : shiftK op k x y = some v) :
    ∃ u, (Op.shift op k x yk y).run P w = .ok u w ∧ VRel φ v u := by
  unfold shiftK at h
  split at h
  · cases h
  · rename_i m
    have hn : ¬ ((Int.ofNat m : Int) < 0) := by simp
    have ht : (Int.ofNat m).toNat = m := rfl
    simp only [Op.shift, hn, if_false, ht]
    split at h
    · cases h
      refine ⟨_, rfl, ?_⟩
      rw [wr_eq]
      have : ((2 ^ min m k.bits : Nat) : Int) = 2 ^ min m k.bits := by push_cast; rfl
      rw [this]
      exact .int _ _
    · cases h
      refine ⟨_, rfl, ?_⟩
      have : ((2 ^ min m k.bits : Nat) : Int) = 2 ^ min m k.bits := by push_cast; rfl
      rw [this]
      exact .int _ _
    · cases h

theorem ltI_eq (x y : Int) : ltI x y = decide (x < y) := by
  unfold ltI
  cases x with
  | ofNat a => cases y with
    | ofNat b =>
      rw [Bool.eq_iff_iff, Nat.blt_eq, decide_eq_true_iff]
      exact ⟨fun h => by simpa using h, fun h => by simpa using h⟩
    | negSucc b => symm; rw [decide_eq_false_iff_not, Int.ofNat_eq_natCast]; omega
  | negSucc a => cases y with
    | ofNat b => symm; rw [decide_eq_true_iff, Int.ofNat_eq_natCast]; omega
    | negSucc b =>
      rw [Bool.eq_iff_iff, Nat.blt_eq, decide_eq_true_iff]
      omega

theorem eqI_eq (x y : Int) : eqI x y = (x == y) := by
  have h : (x == y) = decide (x = y) := rfl
  rw [h]
  unfold eqI
  cases x with
  | ofNat a => cases y with
    | ofNat b =>
      rw [Bool.eq_iff_iff, Nat.beq_eq, decide_eq_true_iff]
      exact ⟨fun h => by rw [h], fun h => Int.ofNat.inj h⟩
    | negSucc b => symm; rw [decide_eq_false_iff_not]; exact fun h => by cases h
  | negSucc a => cases y with
    | ofNat b => symm; rw [decide_eq_false_iff_not]; exact fun h => by cases h
    | negSucc b =>
      rw [Bool.eq_iff_iff, Nat.beq_eq, decide_eq_true_iff]
      exact ⟨fun h => by rw [h], fun h => Int.negSucc.inj h⟩

theorem cmpI_ok {P : Program} (op : BinOp) (x y : Int) (b : Bool) (w : World) (h : cmpI op x y = some b) : (Op.intCmp op x y).run P w = .ok (.bool b) w := by
  have n1 : (!decide (y < x)) = decide (x ≤ y) := by rw [Bool.eq_iff_iff]; simp
  have n2 : (!decide (x < y)) = decide (x ≥ y) := by rw [Bool.eq_iff_iff]; simp
  unfold cmpI at h
  split at h <;> first
    | (cases h; done)
    | (simp only [ltI_eq, eqI_eq, n1, n2] at h; cases h; rfl)

theorem arithK_ok {P : Program} (op : BinOp) (t : TypeId) (k : IntKind) (x y : Int) (v : AV) (φ : Emb) (w : World) (hs : op ≠ .shl ∧ op ≠ .shr) (h : arithK op k x y = some v) :
    ∃ u, (binOp op t (.int k x) (.int k y)).run P w = .ok u w ∧ VRel φ v u := by
  unfold arithK at h
  split at h
  · cases h; exact ⟨_, by simp only [binOp, ne_eq, not_true, if_false]; rfl, by rw [wr_eq]; exact .int _ _⟩
  · cases h; exact ⟨_, by simp only [binOp, ne_eq, not_true, if_false]; rfl, by rw [wr_eq]; exact .int _ _⟩
  · cases h; exact ⟨_, by simp only [binOp, ne_eq, not_true, if_false]; rfl, by rw [wr_eq]; exact .int _ _⟩
  · split at h
    · cases h
    · rename_i hy
      cases h
      refine ⟨_, by simp only [binOp, ne_eq, not_true, if_false, Op.intDiv, hy]; rfl, by rw [wr_eq]; exact .int _ _⟩
  · split at h
    · cases h
    · rename_i hy
      cases h
      exact ⟨_, by simp only [binOp, ne_eq, not_true, if_false, Op.intDiv, hy]; rfl, .int _ _⟩
  · split at h
    · rename_i n hn
      cases h
      exact ⟨_, by simp only [binOp, ne_eq, not_true, if_false]; exact bitsK_eq _ _ _ _ _ hn w, .int _ _⟩
    · cases h
  · split at h
    · rename_i n hn
      cases h
      exact ⟨_, by simp only [binOp, ne_eq, not_true, if_false]; exact bitsK_eq _ _ _ _ _ hn w, .int _ _⟩
    · cases h
  · split at h
    · rename_i n hn
      cases h
      exact ⟨_, by simp only [binOp, ne_eq, not_true, if_false]; exact bitsK_eq _ _ _ _ _ hn w, .int _ _⟩
    · cases h
  · split at h
    · rename_i n hn
      cases h
      exact ⟨_, by simp only [binOp, ne_eq, not_true, if_false]; exact bitsK_eq _ _ _ _ _ hn w, .int _ _⟩
    · cases h
  · split at h
    · rename_i b hb
      cases h
      have hc := cmpI_ok (P := P) _ _ _ _ w hb
      refine ⟨_, ?_, .bool _⟩
      cases op <;> first
        | (simp only [binOp, ne_eq, not_true, if_false]; exact hc)
        | (simp [cmpI] at hb; done)
        | (exact absurd rfl hs.1)
        | (exact absurd rfl hs.2)
    · cases h

theorem strOp_ok {P : Program} (op : BinOp) (s t : ByteArray) (v : AV) (φ : Emb) (w : World) (h : strOp op s.size (packL s.data.toList) t.size (packL t.data.toList) = some v) :
    ∃ u, (Op.stringOp op s t).run P w = .ok u w ∧ VRel φ v u := by
  have he := str_eq_iff s t
  unfold strOp at h
  simp only [he, str_lt] at h
  unfold Op.stringOp
  split at h
  · cases hl : Nat.blt (s.size + t.size) 9223372036854775808
    · rw [hl] at h; cases h
    · rw [hl, cond_true] at h
      cases h
      have hlt : s.size + t.size < 9223372036854775808 := by rwa [Nat.blt_eq] at hl
      refine ⟨_, ?_, str_append φ s t⟩
      have hm : IntKind.i64.max = 9223372036854775807 := rfl
      simp only [hm]
      rw [if_neg (by omega)]
      rfl
  all_goals first
    | (cases h; exact ⟨_, rfl, .bool _⟩)
    | cases h

theorem eqGuard_plain {P : Program} (op : BinOp) (t : TypeId) (x y : Operand) (a b : Value) (w : World) (h1 : a ≠ .nilIface ∨ b ≠ .nilIface) (h2 : (∀ xs, a ≠ .agg xs) ∨ (∀ ys, b ≠ .agg ys)) :
    (eqGuard op t x y a b).run P w = .ok () w := by
  unfold eqGuard
  cases op <;> simp <;> (split <;> first
    | (exact absurd rfl (h1.elim id id))
    | (rcases h2 with h2 | h2 <;> exact absurd rfl (h2 _))
    | rfl)

end Go.Proofs.Ytcpffiihdnecjaa.Ev
