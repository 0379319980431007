/- The evaluator: operations that only compute or read, and those that make a row. -/
import Derived.Test.YtcpffiihdnecjaaEv5
import Derived.Laws.StructEq
namespace Go.Proofs.Ytcpffiihdnecjaa.Ev
set_option linter.unusedSectionVars false
set_option linter.unusedSimpArgs false
set_option linter.unusedVariables false
open Go

/-- The evaluator's tables are the program's. -/
noncomputable def EnvOk (V : Env) : Prop := V.E = tabOf V.P

section types
variable {V : Env} (hV : EnvOk V) (w : World)
include hV

theorem info_of {t : TypeId} {i : TypeInfo} (h : V.E.tys.get t = some i) : V.P.info? t = some i := by
  rw [hV] at h
  have h1 : V.P.types.toList[t]? = some i := T.ofL_get 16 _ _ _ h
  rw [Array.getElem?_toList] at h1
  have hlt : t < V.P.types.size := (Array.getElem?_eq_some_iff.1 h1).1
  show (if t < V.P.types.size then V.P.types[t]? else _) = _
  rw [if_pos hlt, h1]

theorem typeInfo_ok {t : TypeId} {i : TypeInfo} (h : V.E.tys.get t = some i) : (typeInfo t).run V.P w = .ok i w := by
  simp only [typeInfo, Sem.run_bind, run_program, Result.andThen_ok, info_of hV h]
  rfl

theorem und_of {t : TypeId} {d : TypeDesc} (h : V.E.und t = some d) : V.P.underlying t = some d := by
  unfold Tab.und at h
  cases hi : V.E.tys.get t with
  | none => rw [hi] at h; cases h
  | some i =>
    rw [hi] at h
    have hp := info_of hV hi
    unfold Program.underlying
    rw [hp]
    obtain ⟨desc, s1, s2, s3, s4, s5, s6, s7, s8, s9⟩ := i
    cases desc with
    | named s u =>
      cases hj : V.E.tys.get u with
      | none => simp only [hj] at h; cases h
      | some j =>
        simp only [hj] at h
        cases h
        simp only [info_of hV hj, Option.map_some]
    | _ => exact h

theorem und_ok {t : TypeId} {d : TypeDesc} (h : V.E.und t = some d) : (underlying t).run V.P w = .ok d w := run_underlying (und_of hV h) w

theorem size_of' {t : TypeId} {n : Nat} (h : V.E.size t = some n) : V.P.cellsOf t = n ∧ (sizeOf t).run V.P w = .ok n w := by
  unfold Tab.size at h
  cases hi : V.E.tys.get t with
  | none => rw [hi] at h; cases h
  | some i =>
    rw [hi] at h
    cases h
    refine ⟨by simp [Program.cellsOf, info_of hV hi], ?_⟩
    simp only [sizeOf, Sem.run_bind, typeInfo_ok hV w hi, Result.andThen_ok]
    rfl

theorem isAgg_ok {t : TypeId} {b : Bool} (h : V.E.isAgg t = some b) : (isAgg t).run V.P w = .ok b w := by
  unfold Tab.isAgg at h
  cases hu : V.E.und t with
  | none => rw [hu] at h; cases h
  | some d =>
    rw [hu] at h
    simp only [isAgg, Sem.run_bind, und_ok hV w hu, Result.andThen_ok]
    cases d <;> cases h <;> rfl

end types

theorem mapM_rel {φ : Emb} {f : Value → Option AV} (hf : ∀ v x, f v = some x → VRel φ x v) : ∀ (l : List Value) (xs : List AV), l.mapM f = some xs → VsRel φ xs l
  | [], xs, h => by simp at h; subst h; exact .nil
  | v :: l, xs, h => by
    simp only [List.mapM_cons] at h
    cases h1 : f v with
    | none => rw [h1] at h; cases h
    | some x =>
      cases h2 : l.mapM f with
      | none => rw [h1, h2] at h; cases h
      | some ys =>
        rw [h1, h2] at h
        cases h
        exact .cons _ _ _ _ (hf _ _ h1) (mapM_rel hf l ys h2)

theorem ofVal_rel {φ : Emb} : ∀ (k : Nat) (v : Value) (x : AV), ofVal k v = some x → VRel φ x v
  | 0, _, _, h => by cases h
  | k + 1, v, x, h => by
    unfold ofVal at h
    split at h
    · cases h; exact .bool _
    · cases h; exact .int _ _
    · cases h; exact .str _
    · cases h; exact .pnil
    · cases h; exact .snil
    · cases h; exact .mnil
    · cases h; exact .fnil
    · cases h; exact .inil
    · rename_i f xs ys
      cases hc : (xs.size == 0 && ys.size == 0)
      · rw [hc] at h; cases h
      · rw [hc, cond_true] at h
        cases h
        simp only [Bool.and_eq_true, beq_iff_eq] at hc
        have h1 : xs = #[] := Array.eq_empty_of_size_eq_zero hc.1
        have h2 : ys = #[] := Array.eq_empty_of_size_eq_zero hc.2
        subst h1 h2
        exact .func _ _ _ _ _ .nil .nil
    · rename_i t u
      split at h
      · rename_i y hy
        cases h
        exact .iface _ _ _ (ofVal_rel k _ _ hy)
      · cases h
    · split at h
      · rename_i l hl
        cases h
        exact .agg _ _ (mapM_rel (fun v x => ofVal_rel k v x) _ _ hl)
      · cases h
    · split at h
      · rename_i l hl
        cases h
        exact .tuple _ _ (mapM_rel (fun v x => ofVal_rel k v x) _ _ hl)
      · cases h
    · cases h

/-- What operands are. -/
noncomputable def OpRel (φ : Emb) (tm : T AV) (ρ : Operand → Value) : Prop := ∀ x v, evalA tm x = some v → VRel φ v (ρ x)

theorem OpRel.mono {φ ψ : Emb} (h : φ.le ψ) {tm : T AV} {ρ : Operand → Value} (k : OpRel φ tm ρ) : OpRel ψ tm ρ := fun x v e => (k x v e).mono h

theorem TmRel.ops {φ : Emb} {nt : Nat} {tm : T AV} {a : Act} (h : TmRel φ nt tm a.tmps) : OpRel φ tm a.eval := by
  intro x v e
  cases x with
  | tmp t =>
    obtain ⟨u, hu, hv⟩ := h.2 t v e
    show VRel φ v (a.tmps.getD t undef)
    rw [Array.getD_eq_getD_getElem?, hu]
    exact hv
  | const u => exact ofVal_rel 4 u v e
  | global g => cases e; exact .gptr g
  | func f => cases e; exact .func _ _ _ _ _ .nil .nil

theorem OpRel.list {φ : Emb} {tm : T AV} {ρ : Operand → Value} (h : OpRel φ tm ρ) : ∀ {l : List Operand} {vs : List AV}, evalsA tm l = some vs → VsRel φ vs (l.map ρ)
  | [], vs, e => by cases e; exact .nil
  | x :: l, vs, e => by
    unfold evalsA at e
    split at e
    · rename_i v hv
      split at e
      · rename_i vs' hvs
        cases e
        exact .cons _ _ _ _ (h _ _ hv) (OpRel.list h hvs)
      · cases e
    · cases e

theorem deg_rel {V : Env} (hV : EnvOk V) {G N : Nat} {φ : Emb} {M : Mem} {w : World} (R : Rep V.P G N φ M w) {v : AV} {u : Value} (h : VRel φ v u) : VRel φ (deg V M v) u := by
  unfold deg
  split
  · rename_i g
    cases hc : Nat.blt g V.E.ng
    · exact h
    · rw [cond_true]
      split
      · rename_i o ho
        have hng : V.E.ng = V.P.globals.size := by rw [hV]; rfl
        have hlt : g < V.P.globals.size := by rw [← hng]; rwa [Nat.blt_eq] at hc
        obtain ⟨l, hl, h1, h2⟩ := R.glob g o hlt ho
        cases h
        have := VRel.ptr (φ := φ) g 0 l hl
        simpa [Loc.addr, h1, h2] using this
      · exact h
  · exact h

theorem degO_rel {V : Env} (hV : EnvOk V) {G N : Nat} {φ : Emb} {M : Mem} {w : World} (R : Rep V.P G N φ M w) {tm : T AV} {ρ : Operand → Value} (ho : OpRel φ tm ρ) {x : Operand} {v : AV}
    (h : degO V M (evalA tm x) = some v) : VRel φ v (ρ x) := by
  unfold degO at h
  split at h
  · rename_i y hy
    cases h
    exact deg_rel hV R (ho _ _ hy)
  · cases h

theorem part_ok {V : Env} (hV : EnvOk V) (w : World) {φ : Emb} {t : TypeId} {cs : List AV} {us : Array Value} {off : Nat} {v : AV} (hc : VsRel φ cs us.toList) (h : partA V.E t cs off = some v) :
    ∃ u, (part t us off).run V.P w = .ok u w ∧ VRel φ v u := by
  unfold partA at h
  cases ha : V.E.isAgg t with
  | none => rw [ha] at h; cases h
  | some b =>
    rw [ha] at h
    cases b with
    | true =>
      cases hs : V.E.size t with
      | none => simp only [hs] at h; cases h
      | some n =>
        simp only [hs] at h
        cases h
        refine ⟨.agg (us.extract off (off + n)), ?_, .agg _ _ ?_⟩
        · simp only [part, Sem.run_bind, isAgg_ok hV w ha, Result.andThen_ok, if_true, (size_of' hV w hs).2]
          rfl
        · rw [Array.toList_extract, List.extract_eq_take_drop, Nat.add_sub_cancel_left]
          exact (hc.drop off).take n
    | false =>
      obtain ⟨u, hu, hr⟩ := hc.get _ _ h
      refine ⟨u, ?_, hr⟩
      rw [Array.getElem?_toList] at hu
      simp only [part, Sem.run_bind, isAgg_ok hV w ha, Result.andThen_ok, Bool.false_eq_true, if_false, hu]
      rfl

theorem loadA_ok {V : Env} (hV : EnvOk V) {G N : Nat} {φ : Emb} {M : Mem} {w : World} (R : Rep V.P G N φ M w) {t : TypeId} {b i : Nat} {v : AV} {l : Loc} (hl : φ b = some l)
    (h : loadA V M t b i = some v) : ∃ u, (loadVar t (l.addr i)).run V.P w = .ok u w ∧ VRel φ v u := by
  unfold loadA at h
  cases ha : V.E.isAgg t with
  | none => rw [ha] at h; cases h
  | some c =>
    rw [ha] at h
    cases c with
    | true =>
      cases hs : V.E.size t with
      | none => simp only [hs] at h; cases h
      | some n =>
        simp only [hs] at h
        cases hd : M.loads b i n with
        | none => simp only [hd] at h; cases h
        | some cs =>
          simp only [hd] at h
          cases h
          obtain ⟨us, hr, hv⟩ := loads_run R hl hd
          refine ⟨.agg us.toArray, ?_, .agg _ _ (by simpa using hv)⟩
          simp only [loadVar, Sem.run_bind, isAgg_ok hV w ha, Result.andThen_ok, if_true, (size_of' hV w hs).2, hr]
          rfl
    | false =>
      obtain ⟨u, hr, hv⟩ := load1_run R hl h
      refine ⟨u, ?_, hv⟩
      simp only [loadVar, Sem.run_bind, isAgg_ok hV w ha, Result.andThen_ok, Bool.false_eq_true, if_false, hr]

-- comparisons

theorem eqPlain_ok {V : Env} (hV : EnvOk V) (w : World) {φ : Emb} {t : TypeId} {d : TypeDesc} {x y : AV} {u v : Value} {b : Bool} (hx : VRel φ x u) (hy : VRel φ y v) (hd : V.E.und t = some d)
    (h : eqPlain x y d = some b) (D : Nat) : (Op.equalIn (D + 1) t u v).run V.P w = .ok b w := by
  have hu := und_of hV hd
  unfold eqPlain at h
  split at h
  case h_2 =>
    cases hx
    cases hy
    split at h
    · split at h
      · rename_i hk
        subst hk
        cases h
        simp [Op.equalIn, run_underlying hu]
      · cases h
    · cases h
  case h_3 =>
    cases hx
    cases hy
    split at h
    · cases h
      rw [run_equalIn_string w D t _ _ hu, str_eq_iff]
    · cases h
  all_goals first
    | (cases h; done)
    | (split at h
       · cases h
         cases hx <;> cases hy <;> simp [Op.equalIn, run_underlying hu]
       · cases h)

end Go.Proofs.Ytcpffiihdnecjaa.Ev
