/- The evaluator: anchored operations that come to a value: stores, rows, maps, assertions. -/
import Derived.Test.YtcpffiihdnecjaaEv14
namespace Go.Proofs.Ytcpffiihdnecjaa.Ev
set_option linter.unusedSectionVars false
set_option linter.unusedSimpArgs false
set_option linter.unusedVariables false
open Go

/-- A piece comes to a value, in a memory that is known. -/
noncomputable def Came (P : Program) (G N : Nat) (φ : Emb) (M : Mem) (w : World) (s : Sem Next) (v : AV) (M' : Mem) : Prop :=
  ∃ φ' u w' nx, s.run P w = .ok nx w' ∧ (nx = .value u ∨ (nx = .skip ∧ u = undef)) ∧ VRel φ' v u ∧ Rep P G N φ' M' w' ∧ Ext φ M φ' ∧ Kept N w w' ∧ Unm φ M M'

theorem Came.stay {P : Program} {G N : Nat} {φ : Emb} {M : Mem} {w : World} (R : Rep P G N φ M w) {s : Sem Next} {u : Value} {v : AV} (h : s.run P w = .ok (.value u) w) (hv : VRel φ v u) : Came P G N φ M w s v M :=
  ⟨φ, u, w, _, h, .inl rfl, hv, R, .refl _ _, .refl _ _, .refl _ _⟩

theorem Came.stayV {P : Program} {G N : Nat} {φ : Emb} {M : Mem} {w : World} (R : Rep P G N φ M w) {s : Sem Value} {u : Value} {v : AV} (h : s.run P w = .ok u w) (hv : VRel φ v u) :
    Came P G N φ M w (s >>= fun x => (pure (Next.value x) : Sem Next)) v M := .stay R (val_run h) hv

theorem rMem_inv {v v' : AV} {x : Option Mem} {M' : Mem} (h : rMem v x = .val v' M') : v' = v ∧ x = some M' := by
  unfold rMem at h
  split at h <;> cases h
  exact ⟨rfl, rfl⟩

theorem rVal_inv {x : Option (AV × Mem)} {v : AV} {M' : Mem} (h : rVal x = .val v M') : x = some (v, M') := by
  unfold rVal at h
  split at h <;> cases h
  rfl

theorem cond_row {b : Bool} {x y : FRes} {v : AV} {r : Row} (h : (bif b then x else y) = .row v r) : x = .row v r ∨ y = .row v r := by
  cases b
  · exact .inr h
  · exact .inl h

theorem rowOf_lone {e : TypeId} {wh : Bool} {cs : List AV} {r : Row} (h : rowOf e wh cs = some r) : loneB (.row r) := (rowOf_spec h).2.1

theorem fA_lone {V : Env} {tm : T AV} {M : Mem} {o : Op} {v : AV} {r : Row} (h : fA V tm M o = .row v r) : loneB (.row r) := by
  unfold fA at h
  split at h <;> first
    | exact (fV_row h).elim
    | exact (fLoad_nr _ _ h).elim
    | exact (fNilCheck_nr _ _ h).elim
    | exact (fBin_nr _ _ h).elim
    | exact (fUn_nr _ _ h).elim
    | exact (fConv_nr _ _ h).elim
    | exact (fIface_nr _ _ h).elim
    | exact (fFunc_nr _ _ h).elim
    | exact (fFieldAddr_nr _ _ h).elim
    | exact (fField_nr _ _ h).elim
    | exact (fIndexAddr_nr _ _ h).elim
    | exact (fIndex_nr _ _ h).elim
    | exact (fExtract_nr _ _ h).elim
    | exact (fCall_nr _ _ h).elim
    | (cases h; done)
    | skip
  · unfold fPick at h
    split at h
    · exact (fV_row h).elim
    · cases h
  · unfold fAlloc at h
    split at h
    · exact rowOf_lone (fP_inv h).2
    · cases h
  · unfold fBox at h
    split at h
    · exact rowOf_lone (fP_inv h).2
    · cases h
  · unfold fBuild at h
    repeat' split at h
    all_goals first
      | (cases h; done)
      | exact (fAgg_row h).elim
      | skip
    rename_i fs _
    cases hs : sizesOk V fs.toList
    · rw [hs] at h; cases h
    · rw [hs] at h; exact (fAgg_row h).elim
  · unfold fBuildSlice at h
    repeat' split at h
    all_goals first
      | (cases h; done)
      | skip
    unfold fBuildSlice1 at h
    rcases cond_row h with h | h
    · split at h
      · split at h
        · rename_i hr
          cases h
          exact rowOf_lone hr
        · cases h
      · cases h
    · cases h

theorem undef_rel (φ : Emb) : VRel φ undefA undef := .tuple [] #[] .nil

section
variable {V : Env} (hV : EnvOk V) {G N : Nat} {φ : Emb} {M : Mem} {w : World} (R : Rep V.P G N φ M w) {tm : T AV} {ρ : Operand → Value} (ho : OpRel φ tm ρ)
include hV R ho

/-- Whatever floats, carried out at once. -/
theorem viaF_ok {o : Oper} {v : AV} {M' : Mem} (h : viaF M (fA V tm M o.op) = .val v M') : Came V.P G N φ M w (execOp ρ o) v M' := by
  unfold viaF at h
  split at h
  · rename_i v' hv
    cases h
    obtain ⟨q, h1, h2⟩ := fA_val hV R ho hv
    exact .stay R h1 h2
  · rename_i v' r hr
    obtain ⟨rfl, hp⟩ := rMem_inv h
    obtain ⟨p1, p2, p3⟩ := push_spec hp
    have hl : loneB (.row r) := fA_lone hr
    have R' := R.absPush hp hl
    obtain ⟨u, obj, l, h1, h2, h3, h4, h5, h6⟩ := fA_late hV ho R' hr (R.fresh (Nat.le_refl _)) (by rw [p3, if_pos rfl])
    exact ⟨_, u, _, _, h1, .inl rfl, h3, h2, ⟨h5, h4.2⟩, h6, by omega, fun b hb _ => by rw [p3, if_neg (by omega)]⟩
  · cases h

end

section
variable {V : Env} (hV : EnvOk V) {N : Nat} {φ : Emb} {M : Mem} {w : World} (R : Rep V.P V.G N φ M w) {tm : T AV} {ρ : Operand → Value} (ho : OpRel φ tm ρ)
include hV R ho

theorem oStore_ok {t : TypeId} {a x : Operand} {v : AV} {M' : Mem} (h : oStore V tm M t a x = .val v M') :
    Came V.P V.G N φ M w (do Instr.storeAt t (ρ a) (ρ x); pure .skip) v M' := by
  unfold oStore at h
  split at h
  · rename_i b i hx
    obtain ⟨l, hl, hp⟩ := VRel.ptr_inv (degO_rel hV R ho hx)
    split at h
    · rename_i y hy
      split at h
      · rename_i n hn
        cases hc : Nat.beq y.cells.length n
        · rw [hc] at h; cases h
        · rw [hc, cond_true] at h
          obtain ⟨rfl, hs⟩ := rMem_inv h
          have hyc := (ho _ _ hy).cells
          have hlen := hyc.length
          simp only [Array.length_toList] at hlen
          obtain ⟨w', h1, h2, h3, h4⟩ := stores_rep R hl hs hyc
          refine ⟨φ, undef, w', .skip, ?_, .inr ⟨rfl, rfl⟩, undef_rel φ, h2, .refl _ _, h3, h4⟩
          have hsz : ¬ (ρ x).cells.size ≠ n := by
            have := Nat.eq_of_beq_eq_true hc
            omega
          have h1' : (storeCells (l.addr i) (ρ x).cells.toList).run V.P w = .ok () w' := h1
          simp only [Instr.storeAt, hp, Instr.sureAddr, storeVar, Sem.run_bind, Sem.run_pure, Result.andThen_ok, (size_of' hV w hn).2, if_neg hsz, h1']
      · cases h
    · cases h
  · cases h

theorem natOf_run {x : Operand} {k : Nat} (h : natOf (evalA tm x) = some k) : ∃ kd, ρ x = .int kd (.ofNat k) := by
  obtain ⟨kd, hk⟩ := natOf_inv (φ := φ) h
  have := ho _ _ hk
  generalize ρ x = u at this
  cases this
  exact ⟨kd, rfl⟩

theorem oMakeSlice_ok {t : TypeId} {a b : Operand} {v : AV} {M' : Mem} (h : oMakeSlice V tm M t a b = .val v M') :
    Came V.P V.G N φ M w (Instr.makeSlice t (ρ a) (ρ b) >>= fun x => (pure (Next.value x) : Sem Next)) v M' := by
  unfold oMakeSlice at h
  split at h
  · rename_i e hu
    split at h
    · rename_i ti z hti hz
      split at h
      · rename_i l c hl hc
        obtain ⟨ka, ha⟩ := natOf_run hV R ho hl
        obtain ⟨kb, hb⟩ := natOf_run hV R ho hc
        unfold oMakeSlice1 at h
        cases hg : (Nat.ble l c && Nat.blt (c * ti.size) 1048576 && Nat.blt (c * ti.bytes) 1073741824 && Nat.beq z.cells.length ti.size && !Nat.beq ti.size 0)
        · rw [hg] at h; cases h
        · rw [hg, cond_true] at h
          simp only [Bool.and_eq_true, Bool.not_eq_true'] at hg
          obtain ⟨⟨⟨⟨g1, g2⟩, g3⟩, g4⟩, g5⟩ := hg
          have g1 := Nat.le_of_ble_eq_true g1
          have g2 := blt_true g2
          have g3 := blt_true g3
          have g4 := Nat.eq_of_beq_eq_true g4
          have g5 : ti.size ≠ 0 := fun e => by rw [e] at g5; cases g5
          split at h
          · rename_i r hr
            obtain ⟨rfl, hp⟩ := rMem_inv h
            obtain ⟨p1, p2, p3⟩ := push_spec hp
            have R' := R.absPush hp (rowOf_lone hr)
            obtain ⟨zu, h1, h2⟩ := zero_ok hV hz w
            have hzc := (h2 φ).cells
            have hzl := hzc.length
            simp only [Array.length_toList] at hzl
            have hrep := repeat_rel hzc (by omega) c
            have hcc : c ≤ c * ti.size := Nat.le_mul_of_pos_right _ (by omega)
            have hcu : c < unk := by
              have : (1048576 : Nat) < unk := by decide
              omega
            obtain ⟨k1, k2, k3, k4⟩ := late (c := (Array.range (c * z.cells.length)).map (zu.cells[· % zu.cells.size]!)) (rest := []) R' (R.fresh (Nat.le_refl _)) (by rw [p3, if_pos rfl]) hr hrep (by simp) (fun _ => rfl)
            refine ⟨_, .slice (some ((rowAtEnd V.P w e _).addr 0)) l c, _, _, val_run ?_, .inl rfl, .slice _ 0 _ _ _ c (Emb.with_same _ _ _) g1 (fun _ => rfl) (fun hx => absurd hcu (Nat.not_lt.2 hx)), k1, ⟨k3, k2.2⟩, k4,
              by omega, fun b hb _ => by rw [p3, if_neg (by omega)]⟩
            have hwc : IntKind.i64.wrap (Int.ofNat c) = Int.ofNat c := wrap_hi .i64 c (by show c < 9223372036854775808; omega)
            have hwl : IntKind.i64.wrap (Int.ofNat l) = Int.ofNat l := wrap_hi .i64 l (by show l < 9223372036854775808; omega)
            have hbytes : (ti.bytes : Int) * Int.ofNat c = ((c * ti.bytes : Nat) : Int) := by simp [Int.mul_comm]
            have hbig : ¬ ((ti.bytes : Int) * Int.ofNat c > 2 ^ 48) := by rw [hbytes]; omega
            have hcond : ((decide (Int.ofNat c < 0) || decide ((ti.bytes : Int) * Int.ofNat c > 2 ^ 48)) || decide (Int.ofNat l < 0) || decide (Int.ofNat l > Int.ofNat c)) = false := by
              simp only [decide_eq_false hbig]
              simp
              omega
            have hsz := (size_of' hV w (show V.E.size e = some ti.size by unfold Tab.size; rw [hti])).2
            rw [ha, hb]
            simp only [Instr.makeSlice, asInt, asIntOf, Sem.run_bind, run_underlying (und_of hV hu), typeInfo_ok hV w hti, Result.andThen_ok, Sem.run_pure, hwc, hwl]
            rw [if_neg (by rw [hcond]; decide)]
            rw [show (Int.ofNat c).toNat = c from rfl, show (Int.ofNat l).toNat = l from rfl]
            by_cases h0 : c * ti.size = 0
            · simp only [Sem.run_bind, run_askRoom, Result.andThen_ok, hsz, if_pos h0, Sem.run_pure, g4]
              rw [h0, map_range0, map_range0]
              rfl
            · simp only [Sem.run_bind, run_askRoom, Result.andThen_ok, hsz, if_neg h0, Sem.run_pure, h1, g4]
              rfl
          · cases h
      · cases h
    · cases h
  · cases h

end
end Go.Proofs.Ytcpffiihdnecjaa.Ev
