/- The evaluator: what floats, carried out: a value. -/
import Derived.Test.YtcpffiihdnecjaaEv12
namespace Go.Proofs.Ytcpffiihdnecjaa.Ev
set_option linter.unusedSectionVars false
set_option linter.unusedSimpArgs false
set_option linter.unusedVariables false
open Go

theorem natOf_inv {φ : Emb} {v : Option AV} {k : Nat} (h : natOf v = some k) : ∃ kd, v = some (.int kd (.ofNat k)) := by
  unfold natOf at h
  split at h
  · cases h; exact ⟨_, rfl⟩
  · cases h

theorem one1_inv {tm : T AV} {args : Array Operand} {v : AV} (h : one1 tm args.toList = some v) : ∃ x, args = #[x] ∧ evalA tm x = some v := by
  obtain ⟨l⟩ := args
  unfold one1 at h
  split at h
  · rename_i x hx
    simp only at hx
    subst hx
    exact ⟨x, rfl, h⟩
  · cases h

theorem two2_list {tm : T AV} {l : List Operand} {v : AV × AV} (h : two2 tm l = some v) : ∃ x y, l = [x, y] ∧ evalA tm x = some v.1 ∧ evalA tm y = some v.2 := by
  unfold two2 at h
  split at h
  · rename_i x y
    split at h
    · rename_i a ha
      split at h
      · rename_i b hb
        cases h
        exact ⟨x, y, rfl, ha, hb⟩
      · cases h
    · cases h
  · cases h

theorem two2_inv {tm : T AV} {args : Array Operand} {v : AV × AV} (h : two2 tm args.toList = some v) : ∃ x y, args = #[x, y] ∧ evalA tm x = some v.1 ∧ evalA tm y = some v.2 := by
  obtain ⟨x, y, h1, h2⟩ := two2_list h
  obtain ⟨l⟩ := args
  simp only at h1
  subst h1
  exact ⟨x, y, rfl, h2⟩

theorem sIdx_eq (s : ByteArray) (k : Nat) (h : k < s.size) : ∃ b : UInt8, s[k]? = some b ∧ sIdx (packL s.data.toList) k = b.toNat := by
  refine ⟨s[k], ?_, packL_idx _ _ _ ?_⟩
  · simp [h]
  · rw [Array.getElem?_toList]
    have : k < s.data.size := h
    rw [Array.getElem?_eq_getElem this]
    rfl

theorem fBuildSlice1_val {tm : T AV} {M : Mem} {e : TypeId} {n : Nat} {z : List AV} {len : Nat} {parts : Array (Nat × Operand)} {v : AV} (h : fBuildSlice1 tm M e n z len parts = .val v) : False := by
  unfold fBuildSlice1 at h
  generalize (Nat.ble (len * n) 65536 && Nat.beq z.length n && !Nat.beq n 0) = b at h
  cases b
  · cases h
  · rw [cond_true] at h
    repeat' split at h
    all_goals cases h

section
variable {V : Env} (hV : EnvOk V) {G N : Nat} {φ : Emb} {M : Mem} {w : World} (R : Rep V.P G N φ M w) {tm : T AV} {ρ : Operand → Value} (ho : OpRel φ tm ρ)
include hV R ho

theorem fFieldAddr_ok {s : TypeId} {x : Operand} {f : Nat} {v : AV} (h : fFieldAddr V tm M s x f = .val v) :
    ∃ q, (Instr.fieldAt s (ρ x) f).run V.P w = .ok q w ∧ VRel φ v q := by
  unfold fFieldAddr at h
  split at h
  · rename_i b i hx
    obtain ⟨l, hl, hp⟩ := VRel.ptr_inv (degO_rel hV R ho hx)
    split at h
    · rename_i fs hu
      split at h
      · rename_i off n hf
        cases hn : Nat.beq n 0
        · rw [hn, cond_false] at h
          cases h
          unfold fieldAt at hf
          split at hf
          · rename_i fd hfd
            split at hf
            · rename_i n' hn'
              obtain ⟨rfl, rfl⟩ : fd.offset = off ∧ n' = n := by simpa using hf
              have hne : ¬ n' = 0 := fun e => by rw [e] at hn; cases hn
              refine ⟨.pointer (some (l.addr (i + fd.offset))), ?_, .ptr _ _ l hl⟩
              simp only [Instr.fieldAt, Sem.run_bind, run_underlying (und_of hV hu), Result.andThen_ok, hfd, hp, Instr.sureAddr, Sem.run_pure, fieldPlace, (size_of' hV w hn').2]
              rw [if_neg hne]
              simp only [Sem.run_pure, Result.andThen_ok, Loc.addr_add]
            · cases hf
          · cases hf
        · rw [hn] at h; cases h
      · cases h
    · cases h
  · cases h

theorem fLoad_ok {t : TypeId} {a : Operand} {v : AV} (h : fLoad V tm M t a = .val v) :
    ∃ q, (Instr.loadAt t (ρ a)).run V.P w = .ok q w ∧ VRel φ v q := by
  unfold fLoad at h
  split at h
  · rename_i b i hx
    obtain ⟨l, hl, hp⟩ := VRel.ptr_inv (degO_rel hV R ho hx)
    obtain ⟨q, h1, h2⟩ := loadA_ok hV R hl (fV_val h)
    refine ⟨q, ?_, h2⟩
    simp only [Instr.loadAt, hp, Instr.sureAddr, Sem.run_bind, Sem.run_pure, Result.andThen_ok, h1]
  · cases h

theorem fIndexAddr_ok {t : TypeId} {x ix : Operand} {v : AV} (h : fIndexAddr V tm M t x ix = .val v) :
    ∃ q, (Instr.indexAt t (ρ x) (ρ ix)).run V.P w = .ok q w ∧ VRel φ v q := by
  unfold fIndexAddr at h
  split at h
  · rename_i a ha
    have hx := degO_rel hV R ho ha
    split at h
    · rename_i k hk
      obtain ⟨kd, hk⟩ := natOf_inv (φ := φ) hk
      have hi := ho _ _ hk
      generalize ρ ix = iu at hi
      cases hi
      generalize ρ x = u at hx
      unfold fIndexAddr1 at h
      split at h
      · rename_i e hu
        split at h
        · rename_i b i len cap
          split at h
          · rename_i s hs
            cases hc : Nat.blt k len
            · rw [hc] at h; cases h
            · rw [hc, cond_true] at h
              have hc := blt_true hc
              cases h
              cases hx with
              | slice _ _ _ _ l cap' hl h0 h1 h2 =>
                refine ⟨.pointer (some (l.addr (i + k * s))), ?_, .ptr _ _ l hl⟩
                have hin : (0 : Int) ≤ Int.ofNat k ∧ Int.ofNat k < (len : Int) := by constructor <;> simp; omega
                simp only [Instr.indexAt, asIntOf, Sem.run_bind, Sem.run_pure, run_underlying (und_of hV hu), Result.andThen_ok, if_pos hin, (size_of' hV w hs).2]
                simp only [Sem.run_pure, Result.andThen_ok, Loc.addr_add, Int.ofNat_eq_natCast, Int.toNat_natCast]
              | sliceE => exact absurd hc (Nat.not_lt_zero _)
          · cases h
        · cases h
      · rename_i n e hu
        split at h
        · rename_i b i
          split at h
          · rename_i s hs
            cases hc : Nat.blt k n
            · rw [hc] at h; cases h
            · rw [hc, cond_true] at h
              have hc := blt_true hc
              cases h
              obtain ⟨l, hl, rfl⟩ := VRel.ptr_inv hx
              refine ⟨.pointer (some (l.addr (i + k * s))), ?_, .ptr _ _ l hl⟩
              have hin : (0 : Int) ≤ Int.ofNat k ∧ Int.ofNat k < (n : Int) := by constructor <;> simp; omega
              simp only [Instr.indexAt, asIntOf, Instr.sureAddr, Sem.run_bind, Sem.run_pure, run_underlying (und_of hV hu), Result.andThen_ok, if_pos hin, (size_of' hV w hs).2]
              simp only [Sem.run_pure, Result.andThen_ok, Loc.addr_add, Int.ofNat_eq_natCast, Int.toNat_natCast]
          · cases h
        · cases h
      · cases h
    · cases h
  · cases h

omit R in
theorem fIndex_ok {t : TypeId} {x ix : Operand} {v : AV} (h : fIndex V tm t x ix = .val v) :
    ∃ q, (Instr.index t (ρ x) (ρ ix)).run V.P w = .ok q w ∧ VRel φ v q := by
  unfold fIndex at h
  split at h
  · rename_i a ha
    have hx := ho _ _ ha
    split at h
    · rename_i k hk
      obtain ⟨kd, hk⟩ := natOf_inv (φ := φ) hk
      have hi := ho _ _ hk
      generalize ρ ix = iu at hi
      cases hi
      generalize ρ x = u at hx
      unfold fIndex1 at h
      split at h
      · rename_i n e hu
        split at h
        · rename_i cs
          split at h
          · rename_i s hs
            cases hc : Nat.blt k n
            · rw [hc] at h; cases h
            · rw [hc, cond_true] at h
              have hc := blt_true hc
              cases hx with
              | agg _ us hcs =>
                obtain ⟨q, h1, h2⟩ := part_ok hV w hcs (fV_val h)
                refine ⟨q, ?_, h2⟩
                have hin : (0 : Int) ≤ Int.ofNat k ∧ Int.ofNat k < (n : Int) := by constructor <;> simp; omega
                simp only [Instr.index, asIntOf, Sem.run_bind, Sem.run_pure, run_underlying (und_of hV hu), Result.andThen_ok, if_pos hin, (size_of' hV w hs).2]
                exact h1
          · cases h
        · cases h
      · rename_i hu
        split at h
        · rename_i l n
          cases hc : Nat.blt k l
          · rw [hc] at h; cases h
          · rw [hc, cond_true] at h
            have hc := blt_true hc
            cases h
            cases hx with
            | str s =>
              obtain ⟨b, h1, h2⟩ := sIdx_eq s k hc
              refine ⟨_, ?_, .int .u8 _⟩
              have hin : (0 : Int) ≤ Int.ofNat k := by simp
              simp only [Instr.index, asIntOf, Sem.run_bind, Sem.run_pure, run_underlying (und_of hV hu), Result.andThen_ok, if_pos hin]
              have : (Int.ofNat k).toNat = k := by simp
              rw [this, h1]
              rw [h2]
              rfl
        · cases h
      · cases h
    · cases h
  · cases h

omit R in
theorem fField_ok {t : TypeId} {x : Operand} {f : Nat} {v : AV} (h : fField V tm t x f = .val v) :
    ∃ q, (Instr.field t (ρ x) f).run V.P w = .ok q w ∧ VRel φ v q := by
  unfold fField at h
  split at h
  · rename_i cs hx
    have hx := ho _ _ hx
    generalize ρ x = u at hx
    split at h
    · rename_i fs hu
      split at h
      · rename_i fd hfd
        cases hx with
        | agg _ us hcs =>
          obtain ⟨q, h1, h2⟩ := part_ok hV w hcs (fV_val h)
          refine ⟨q, ?_, h2⟩
          simp only [Instr.field, asAgg, Sem.run_bind, Sem.run_pure, run_underlying (und_of hV hu), Result.andThen_ok, hfd]
          exact h1
      · cases h
    · cases h
  · cases h

theorem fConv_ok {src dst : TypeId} {x : Operand} {v : AV} (h : fConv V tm M src dst x = .val v) :
    ∃ q, (convert src dst (ρ x)).run V.P w = .ok q w ∧ VRel φ v q := by
  unfold fConv at h
  split at h
  · rename_i a ha
    have hx := ho _ _ ha
    generalize ρ x = u at hx
    unfold convA at h
    split at h
    · rename_i k hd
      split at h
      · rename_i d k' n hs
        cases h
        cases hx
        refine ⟨_, ?_, .int _ _⟩
        simp only [convert, Sem.run_bind, run_underlying (und_of hV hs), run_underlying (und_of hV hd), Result.andThen_ok]
        simp only [Conv.intToInt, wr_eq, Sem.run_pure]
      · cases h
    · rename_i hd
      split at h
      · rename_i l n hs
        cases h
        cases hx
        refine ⟨_, ?_, .str _⟩
        simp only [convert, Sem.run_bind, run_underlying (und_of hV hs), run_underlying (und_of hV hd), Result.andThen_ok]
        rfl
      · rename_i e hs
        exact toStr_ok hV R hs hd hx h
      · cases h
    · rename_i hd
      split at h
      · rename_i t hs
        exact toUnsafe_ok hV R hs hd hx h
      · cases h
    · rename_i t hd
      split at h
      · rename_i hs
        exact fromUnsafe_ok hV R hs hd hx h
      · cases h
    · cases h
  · cases h

theorem fCall_ok {o : Oper} {c : Call} (hop : o.op = .call c) {v : AV} (h : fCall V tm c = .val v) :
    ∃ q, (execOp ρ o).run V.P w = .ok (.value q) w ∧ VRel φ v q := by
  unfold fCall at h
  split at h
  · rename_i b hb
    have go : ∀ r, (∀ cs, (builtin b c.argTypes o.type cs (c.args.map ρ)).run V.P w = r) → (execOp ρ o).run V.P w = r := by
      intro r hr
      simp only [execOp, hop, resolve, hb, Sem.run_bind, Sem.run_pure, Result.andThen_ok, invoke]
      exact hr _
    unfold fBuiltin at h
    split at h
    · split at h
      · rename_i a t ha ht
        obtain ⟨x, hx, hv⟩ := one1_inv ha
        obtain ⟨q, h1, h2⟩ := lenA_ok (ty := o.type) (w := w) hV (ho _ _ hv) ht (fV_val h)
        refine ⟨q, go _ (fun cs => ?_), h2⟩
        rw [hx, show (#[x] : Array Operand).map ρ = #[ρ x] by simp]
        exact val_run h1
      · cases h
    · split at h
      · rename_i a t ha ht
        obtain ⟨x, hx, hv⟩ := one1_inv ha
        obtain ⟨q, h1, h2⟩ := capA_ok (ty := o.type) (w := w) hV (ho _ _ hv) ht (fV_val h)
        refine ⟨q, go _ (fun cs => ?_), h2⟩
        rw [hx, show (#[x] : Array Operand).map ρ = #[ρ x] by simp]
        exact val_run h1
      · cases h
    · split at h
      · rename_i a b hab
        obtain ⟨x, y, hx, ha, hb⟩ := two2_inv hab
        obtain ⟨q, h1, h2⟩ := mm2_ok (P := V.P) (w := w) (ho _ _ ha) (ho _ _ hb) (fV_val h)
        refine ⟨q, go _ (fun cs => ?_), h2⟩
        rw [hx]
        refine val_run ?_
        simpa [Builtin.max_] using h1
      · cases h
    · split at h
      · rename_i a b hab
        obtain ⟨x, y, hx, ha, hb⟩ := two2_inv hab
        obtain ⟨q, h1, h2⟩ := mm2_ok (P := V.P) (w := w) (ho _ _ ha) (ho _ _ hb) (fV_val h)
        refine ⟨q, go _ (fun cs => ?_), h2⟩
        rw [hx]
        refine val_run ?_
        simpa [Builtin.min_] using h1
      · cases h
    · cases h
  · cases h

/-- Whatever floats and comes to a value. -/
theorem fA_val {o : Oper} {v : AV} (h : fA V tm M o.op = .val v) : ∃ q, (execOp ρ o).run V.P w = .ok (.value q) w ∧ VRel φ v q := by
  have go : ∀ (s : Sem Value) (hs : execOp ρ o = (s >>= fun x => (pure (Next.value x) : Sem Next))), (∃ q, s.run V.P w = .ok q w ∧ VRel φ v q) → ∃ q, (execOp ρ o).run V.P w = .ok (.value q) w ∧ VRel φ v q := by
    intro s hs ⟨q, h1, h2⟩
    rw [hs]
    exact ⟨q, val_run h1, h2⟩
  unfold fA at h
  split at h
  · rename_i x hop
    exact ⟨ρ x, by simp only [execOp, hop]; rfl, ho _ _ (fV_val h)⟩
  · rename_i x hop
    exact ⟨ρ x, by simp only [execOp, hop]; rfl, ho _ _ (fV_val h)⟩
  · rename_i c a b hop
    unfold fPick at h
    split at h
    · rename_i t ht
      have hc := ho _ _ ht
      generalize hcu : ρ c = cu at hc
      cases hc
      have h := fV_val h
      cases t
      · refine ⟨ρ b, ?_, ho _ _ h⟩
        simp only [execOp, hop, hcu, asBool]; rfl
      · refine ⟨ρ a, ?_, ho _ _ h⟩
        simp only [execOp, hop, hcu, asBool]; rfl
    · cases h
  · unfold fAlloc at h
    split at h
    · unfold fP at h; split at h <;> cases h
    · cases h
  · unfold fBox at h
    split at h
    · unfold fP at h; split at h <;> cases h
    · cases h
  · rename_i t parts hop
    exact go _ (by simp only [execOp, hop]) (build_ok hV ho h)
  · unfold fBuildSlice at h
    repeat' split at h
    all_goals first | (cases h; done) | skip
    exact (fBuildSlice1_val h).elim
  · rename_i t a hop
    exact go _ (by simp only [execOp, hop]) (fLoad_ok hV R ho h)
  · rename_i x hop
    unfold fNilCheck at h
    split at h
    · rename_i a ha
      have hx := ho _ _ ha
      generalize hu : ρ x = u at hx
      refine ⟨u, ?_, ?_⟩
      · split at h <;> first
          | (cases h; done)
          | (cases hx; simp only [execOp, hop, hu]; rfl)
      · split at h <;> cases h <;> exact hx
    · cases h
  · rename_i op t x y ty hop
    unfold fBin at h
    split at h
    · rename_i a ha
      split at h
      · rename_i b hb
        exact go _ (by simp only [execOp, hop]) (binA_ok hV w (ho _ _ ha) (ho _ _ hb) (fV_val h))
      · cases h
    · cases h
  · rename_i op ty x hop
    unfold fUn at h
    split at h
    · rename_i a ha
      exact go _ (by simp only [execOp, hop]) (unA_ok w (ho _ _ ha) (fV_val h))
    · cases h
  · rename_i src dst x hop
    exact go _ (by simp only [execOp, hop]) (fConv_ok hV R ho h)
  · rename_i t x hop
    unfold fIface at h
    split at h
    · cases h
    · rename_i d hd hu
      split at h
      · rename_i a ha
        cases h
        refine go (Instr.makeInterface t (ρ x)) (by simp only [execOp, hop]) ⟨.iface t (ρ x), ?_, .iface _ _ _ (ho _ _ ha)⟩
        simp only [Instr.makeInterface, Sem.run_bind, run_underlying (und_of hV hu), Result.andThen_ok]
        cases d <;> first | rfl | exact absurd rfl (hd _)
      · cases h
    · cases h
  · rename_i f xs ys hop
    unfold fFunc at h
    split at h
    · rename_i f'
      split at h
      · rename_i xs' hxs
        split at h
        · rename_i ys' hys
          cases h
          refine go (Instr.makeFunc (.func f') (xs.map ρ) (ys.map ρ)) (by simp only [execOp, hop]) ⟨_, by simp only [Instr.makeFunc]; rfl, .func _ _ _ _ _ ?_ ?_⟩
          · rw [Array.toList_map]; exact ho.list hxs
          · rw [Array.toList_map]; exact ho.list hys
        · cases h
      · cases h
    · cases h
  · rename_i t x lo hi mx hop
    exact go _ (by simp only [execOp, hop]) (sliceA_ok hV R ho (fV_val h))
  · rename_i s x f hop
    exact go _ (by simp only [execOp, hop]) (fFieldAddr_ok hV R ho h)
  · rename_i t x f hop
    exact go _ (by simp only [execOp, hop]) (fField_ok hV ho h)
  · rename_i t x ix hop
    exact go _ (by simp only [execOp, hop]) (fIndexAddr_ok hV R ho h)
  · rename_i t x ix hop
    exact go _ (by simp only [execOp, hop]) (fIndex_ok hV ho h)
  · rename_i t ix hop
    unfold fExtract at h
    split at h
    · rename_i vs ht
      have hx := ho _ _ ht
      generalize hu : ρ t = u at hx
      cases hx with
      | tuple _ us hvs =>
        obtain ⟨q, h1, h2⟩ := hvs.get _ _ (fV_val h)
        rw [Array.getElem?_toList] at h1
        refine go (Instr.extract (ρ t) ix) (by simp only [execOp, hop]) ⟨q, ?_, h2⟩
        rw [hu]
        simp only [Instr.extract, h1]
        rfl
    · cases h
  · rename_i c hop
    exact fCall_ok hV R ho hop h
  · cases h

end
end Go.Proofs.Ytcpffiihdnecjaa.Ev
