/- The evaluator: what floats, carried out: a row of its own. -/
import Derived.Test.YtcpffiihdnecjaaEv13
namespace Go.Proofs.Ytcpffiihdnecjaa.Ev
set_option linter.unusedSectionVars false
set_option linter.unusedSimpArgs false
set_option linter.unusedVariables false
open Go

theorem repeatL_len (z : List AV) : ∀ n, (repeatL n z).length = n * z.length
  | 0 => by simp [repeatL]
  | n + 1 => by simp [repeatL, repeatL_len z n, Nat.succ_mul, Nat.add_comm]

theorem repeatL_get (z : List AV) (hz : 0 < z.length) : ∀ n i, i < n * z.length → (repeatL n z)[i]? = z[i % z.length]?
  | 0, i, h => by simp at h
  | n + 1, i, h => by
    unfold repeatL
    by_cases hi : i < z.length
    · rw [List.getElem?_append_left hi, Nat.mod_eq_of_lt hi]
    · have hi : z.length ≤ i := Nat.le_of_not_lt hi
      rw [List.getElem?_append_right hi, repeatL_get z hz n (i - z.length) (by rw [Nat.succ_mul] at h; omega), Nat.mod_eq_sub_mod hi]

theorem repeat_rel {φ : Emb} {z : List AV} {zu : Array Value} (h : VsRel φ z zu.toList) (hz : 0 < z.length) (n : Nat) :
    VsRel φ (repeatL n z) ((Array.range (n * z.length)).map (zu[· % zu.size]!)).toList := by
  have hl := h.length
  simp only [Array.length_toList] at hl
  refine VsRel.of_get (by simp [repeatL_len]) fun i x hx => ?_
  have hi : i < n * z.length := by
    rw [← repeatL_len]
    rcases Nat.lt_or_ge i (repeatL n z).length with h' | h'
    · exact h'
    · simp [List.getElem?_eq_none h'] at hx
  rw [repeatL_get z hz n i hi] at hx
  obtain ⟨u, hu, hr⟩ := h.get _ _ hx
  refine ⟨u, ?_, hr⟩
  rw [Array.getElem?_toList] at hu
  rw [← hl]
  simp [hi, getElem!_def, hu]

theorem fP_inv {M : Mem} {x : Option Row} {v : AV} {r : Row} (h : fP M x = .row v r) : v = .ptr M.next 0 ∧ x = some r := by
  unfold fP at h
  split at h <;> cases h
  exact ⟨rfl, rfl⟩

theorem fAgg_row {x : Option (List AV)} {v : AV} {r : Row} (h : fAgg x = .row v r) : False := by
  unfold fAgg at h
  split at h <;> cases h

theorem map_range0 (f : Nat → Value) : (Array.range 0).map f = #[] := by simp

/-- No row is made. -/
noncomputable def NoRow (x : FRes) : Prop := ∀ v r, x = .row v r → False
theorem nr_no : NoRow .no := fun _ _ h => by cases h
theorem nr_val {v : AV} : NoRow (.val v) := fun _ _ h => by cases h
theorem nr_fV {v : Option AV} : NoRow (fV v) := fun _ _ h => fV_row h
theorem nr_cond {b : Bool} {x y : FRes} (h : NoRow x) (k : NoRow y) : NoRow (bif b then x else y) := by
  cases b
  · exact k
  · exact h

theorem toStr_nr {V : Env} {M : Mem} {e : TypeId} {x : AV} : NoRow (toStr V M e x) := by unfold toStr; ((repeat' split) <;> first | exact nr_no | exact nr_val | exact nr_fV | exact nr_cond nr_val nr_no | exact nr_cond nr_no nr_val | exact nr_cond nr_fV nr_no)
theorem toUnsafe_nr {V : Env} {M : Mem} {e : TypeId} {x : AV} : NoRow (toUnsafe V M e x) := by unfold toUnsafe; ((repeat' split) <;> first | exact nr_no | exact nr_val | exact nr_fV | exact nr_cond nr_val nr_no | exact nr_cond nr_no nr_val | exact nr_cond nr_fV nr_no)
theorem fromUnsafe_nr {V : Env} {M : Mem} {e : TypeId} {x : AV} : NoRow (fromUnsafe V M e x) := by unfold fromUnsafe; ((repeat' split) <;> first | exact nr_no | exact nr_val | exact nr_fV | exact nr_cond nr_val nr_no | exact nr_cond nr_no nr_val | exact nr_cond nr_fV nr_no)
theorem fLoad_nr {V : Env} {tm : T AV} {M : Mem} {t : TypeId} {a : Operand} : NoRow (fLoad V tm M t a) := by unfold fLoad; ((repeat' split) <;> first | exact nr_no | exact nr_val | exact nr_fV | exact nr_cond nr_val nr_no | exact nr_cond nr_no nr_val | exact nr_cond nr_fV nr_no)
theorem fNilCheck_nr {tm : T AV} {a : Operand} : NoRow (fNilCheck tm a) := by unfold fNilCheck; ((repeat' split) <;> first | exact nr_no | exact nr_val | exact nr_fV | exact nr_cond nr_val nr_no | exact nr_cond nr_no nr_val | exact nr_cond nr_fV nr_no)
theorem fBin_nr {V : Env} {tm : T AV} {op : BinOp} {t : TypeId} {x y : Operand} : NoRow (fBin V tm op t x y) := by unfold fBin; ((repeat' split) <;> first | exact nr_no | exact nr_val | exact nr_fV | exact nr_cond nr_val nr_no | exact nr_cond nr_no nr_val | exact nr_cond nr_fV nr_no)
theorem fUn_nr {tm : T AV} {op : UnOp} {x : Operand} : NoRow (fUn tm op x) := by unfold fUn; ((repeat' split) <;> first | exact nr_no | exact nr_val | exact nr_fV | exact nr_cond nr_val nr_no | exact nr_cond nr_no nr_val | exact nr_cond nr_fV nr_no)
theorem convA_nr {V : Env} {M : Mem} {s d : TypeId} {x : AV} : NoRow (convA V M s d x) := by
  unfold convA
  (repeat' split) <;> first
    | exact nr_no
    | exact nr_val
    | exact toStr_nr
    | exact toUnsafe_nr
    | exact fromUnsafe_nr
theorem fConv_nr {V : Env} {tm : T AV} {M : Mem} {s d : TypeId} {x : Operand} : NoRow (fConv V tm M s d x) := by
  unfold fConv
  split
  · exact convA_nr
  · exact nr_no
theorem fIface_nr {V : Env} {tm : T AV} {t : TypeId} {x : Operand} : NoRow (fIface V tm t x) := by unfold fIface; ((repeat' split) <;> first | exact nr_no | exact nr_val | exact nr_fV | exact nr_cond nr_val nr_no | exact nr_cond nr_no nr_val | exact nr_cond nr_fV nr_no)
theorem fFunc_nr {tm : T AV} {f : Fn} {x y : Array Operand} : NoRow (fFunc tm f x y) := by unfold fFunc; ((repeat' split) <;> first | exact nr_no | exact nr_val | exact nr_fV | exact nr_cond nr_val nr_no | exact nr_cond nr_no nr_val | exact nr_cond nr_fV nr_no)
theorem fFieldAddr_nr {V : Env} {tm : T AV} {M : Mem} {t : TypeId} {x : Operand} {f : Nat} : NoRow (fFieldAddr V tm M t x f) := by unfold fFieldAddr; ((repeat' split) <;> first | exact nr_no | exact nr_val | exact nr_fV | exact nr_cond nr_val nr_no | exact nr_cond nr_no nr_val | exact nr_cond nr_fV nr_no)
theorem fField_nr {V : Env} {tm : T AV} {t : TypeId} {x : Operand} {f : Nat} : NoRow (fField V tm t x f) := by unfold fField; ((repeat' split) <;> first | exact nr_no | exact nr_val | exact nr_fV | exact nr_cond nr_val nr_no | exact nr_cond nr_no nr_val | exact nr_cond nr_fV nr_no)
theorem fIndexAddr1_nr {V : Env} {t : TypeId} {x : AV} {k : Nat} : NoRow (fIndexAddr1 V t x k) := by unfold fIndexAddr1; ((repeat' split) <;> first | exact nr_no | exact nr_val | exact nr_fV | exact nr_cond nr_val nr_no | exact nr_cond nr_no nr_val | exact nr_cond nr_fV nr_no)
theorem fIndexAddr_nr {V : Env} {tm : T AV} {M : Mem} {t : TypeId} {x y : Operand} : NoRow (fIndexAddr V tm M t x y) := by
  unfold fIndexAddr
  (repeat' split) <;> first
    | exact nr_no
    | exact fIndexAddr1_nr
theorem fIndex1_nr {V : Env} {t : TypeId} {x : AV} {k : Nat} : NoRow (fIndex1 V t x k) := by unfold fIndex1; ((repeat' split) <;> first | exact nr_no | exact nr_val | exact nr_fV | exact nr_cond nr_val nr_no | exact nr_cond nr_no nr_val | exact nr_cond nr_fV nr_no)
theorem fIndex_nr {V : Env} {tm : T AV} {t : TypeId} {x y : Operand} : NoRow (fIndex V tm t x y) := by
  unfold fIndex
  (repeat' split) <;> first
    | exact nr_no
    | exact fIndex1_nr
theorem fExtract_nr {tm : T AV} {x : Operand} {i : Nat} : NoRow (fExtract tm x i) := by unfold fExtract; ((repeat' split) <;> first | exact nr_no | exact nr_val | exact nr_fV | exact nr_cond nr_val nr_no | exact nr_cond nr_no nr_val | exact nr_cond nr_fV nr_no)
theorem fBuiltin_nr {V : Env} {tm : T AV} {b : Builtin} {x : Array Operand} {t : Array TypeId} : NoRow (fBuiltin V tm b x t) := by unfold fBuiltin; ((repeat' split) <;> first | exact nr_no | exact nr_val | exact nr_fV | exact nr_cond nr_val nr_no | exact nr_cond nr_no nr_val | exact nr_cond nr_fV nr_no)
theorem fCall_nr {V : Env} {tm : T AV} {c : Call} : NoRow (fCall V tm c) := by
  unfold fCall
  split
  · exact fBuiltin_nr
  · exact nr_no

/-- The new row, in the world. -/
noncomputable def rowAtEnd (P : Program) (w : World) (e : TypeId) (c : Array Value) : Loc := ⟨w.heap.size, 0, c.size, P.cellsOf e⟩

section
variable {V : Env} (hV : EnvOk V) {G N : Nat} {φ : Emb} {M : Mem} {w : World} (R : Rep V.P G N φ M w) {tm : T AV} {ρ : Operand → Value} (ho : OpRel φ tm ρ)

/-- A row that the abstract memory has had for some while is made in the world. -/
theorem late {b : Nat} {r : Row} {e : TypeId} {wh : Bool} {cs : List AV} {c : Array Value} {rest : List Value} {us : List Value} (R : Rep V.P G N φ M w) (hn : φ b = none) (hg : M.heap.get b = some (.row r))
    (hr : rowOf e wh cs = some r) (hv : VsRel φ cs us) (hc : c.toList = us ++ rest) (hwh : wh = true → rest = []) :
    Rep V.P G N (φ.with b (rowAtEnd V.P w e c)) M (wpush w (.cells c e)) ∧ Ext φ { M with next := b } (φ.with b (rowAtEnd V.P w e c)) ∧ φ.le (φ.with b (rowAtEnd V.P w e c)) ∧ Kept N w (wpush w (.cells c e)) := by
  have hle := Emb.le_with (rowAtEnd V.P w e c) hn
  exact R.realize hn hg rfl (rowOf_rel hr (hv.mono hle) (by rw [wpush_get]; exact if_pos rfl) hc rfl rfl rfl hwh)

include hV ho

theorem fA_late {M0 : Mem} {o : Oper} {v : AV} {r : Row} (R : Rep V.P G N φ M w) (h : fA V tm M0 o.op = .row v r) (hn : φ M0.next = none) (hg : M.heap.get M0.next = some (.row r)) :
    ∃ u obj l, (execOp ρ o).run V.P w = .ok (.value u) (wpush w obj) ∧ Rep V.P G N (φ.with M0.next l) M (wpush w obj) ∧ VRel (φ.with M0.next l) v u ∧ Ext φ { M with next := M0.next } (φ.with M0.next l) ∧
      φ.le (φ.with M0.next l) ∧ Kept N w (wpush w obj) := by
  have go : ∀ (s : Sem Value) (hs : execOp ρ o = (s >>= fun x => (pure (Next.value x) : Sem Next))) (u : Value) (obj : Obj), s.run V.P w = .ok u (wpush w obj) → (execOp ρ o).run V.P w = .ok (.value u) (wpush w obj) := by
    intro s hs u obj h1
    rw [hs]
    exact val_run h1
  unfold fA at h
  split at h <;> first
    | exact (fV_row h).elim
    | skip
  · unfold fPick at h
    split at h
    · exact (fV_row h).elim
    · cases h
  · rename_i e hop
    unfold fAlloc at h
    split at h
    · rename_i z hz
      obtain ⟨rfl, hr⟩ := fP_inv h
      obtain ⟨zu, h1, h2⟩ := zero_ok hV hz w
      obtain ⟨k1, k2, k3, k4⟩ := late (c := zu.cells) (rest := []) R hn hg hr (h2 φ).cells (by simp) (fun _ => rfl)
      refine ⟨_, _, _, go (Instr.alloc e true (.tuple #[])) (by simp only [execOp, hop]) _ _ ?_, k1, .ptr _ 0 _ (Emb.with_same _ _ _), k2, k3, k4⟩
      simp only [Instr.alloc, Sem.run_bind, h1, Result.andThen_ok]
      rfl
    · cases h
  · rename_i e x hop
    unfold fBox at h
    split at h
    · rename_i z hz
      obtain ⟨rfl, hr⟩ := fP_inv h
      obtain ⟨k1, k2, k3, k4⟩ := late (c := (ρ x).cells) (rest := []) R hn hg hr (ho _ _ hz).cells (by simp) (fun _ => rfl)
      exact ⟨_, _, _, go (Instr.box e (ρ x)) (by simp only [execOp, hop]) _ _ rfl, k1, .ptr _ 0 _ (Emb.with_same _ _ _), k2, k3, k4⟩
    · cases h
  · unfold fBuild at h
    repeat' split at h
    all_goals first
      | (cases h; done)
      | exact (fAgg_row h).elim
      | skip
    rename_i fs _
    cases hs : sizesOk V fs.toList
    · rw [hs] at h; cases h
    · rw [hs] at h; exact (fAgg_row h).elim
  · rename_i t len parts hop
    unfold fBuildSlice at h
    split at h
    · rename_i e hu
      split at h
      · rename_i n hs
        split at h
        · rename_i z hz
          unfold fBuildSlice1 at h
          cases hb : (Nat.ble (len * n) 65536 && Nat.beq z.cells.length n && !Nat.beq n 0)
          · rw [hb] at h; cases h
          · rw [hb, cond_true] at h
            simp only [Bool.and_eq_true, Bool.not_eq_true'] at hb
            obtain ⟨⟨b1, b2⟩, b3⟩ := hb
            have b1 := Nat.le_of_ble_eq_true b1
            have b2 := Nat.eq_of_beq_eq_true b2
            have b3 : n ≠ 0 := fun e => by rw [e] at b3; cases b3
            split at h
            · rename_i cs hcs
              split at h
              · rename_i r' hr
                cases h
                obtain ⟨zu, h1, h2⟩ := zero_ok hV hz w
                have hzc := (h2 φ).cells
                have hzl := hzc.length
                simp only [Array.length_toList] at hzl
                have hrep := repeat_rel hzc (by omega) len
                obtain ⟨c', f1, f2⟩ := fill_ok ho (pl' := fun i => some (i * n, n)) (fun i x hx => hx) _ _ _ _ hrep hcs
                have hlen : len < unk := by
                  have : len ≤ len * n := Nat.le_mul_of_pos_right _ (by omega)
                  have : (65536 : Nat) < unk := by decide
                  omega
                obtain ⟨k1, k2, k3, k4⟩ := late (c := c') (rest := []) R hn hg hr f2 (by simp) (fun _ => rfl)
                refine ⟨_, _, _, go (Instr.buildSlice t len (parts.map fun (i, x) => (i, ρ x))) (by simp only [execOp, hop]) _ _ ?_, k1,
                  .slice _ 0 _ _ _ len (Emb.with_same _ _ _) (Nat.le_refl _) (fun _ => rfl) (fun hx => absurd hlen (Nat.not_lt.2 hx)), k2, k3, k4⟩
                have hmap : (parts.map fun (i, x) => (i, ρ x)).toList = parts.toList.map fun p => (p.1, ρ p.2) := by simp
                have hbig : ¬ len * n > 2 ^ 24 := by omega
                rw [b2] at f1
                by_cases h0 : len * n = 0
                · simp only [Instr.buildSlice, Sem.run_bind, run_underlying (und_of hV hu), (size_of' hV w hs).2, Result.andThen_ok, if_neg hbig, if_pos h0, hmap, Sem.run_pure]
                  have f1' : Instr.fill (fun i => some (i * n, n)) ((Array.range (len * n)).map (fun x => (#[] : Array Value)[x % (#[] : Array Value).size]!)) (parts.toList.map fun p => (p.1, ρ p.2)) = some c' := by
                    rw [← f1, h0, map_range0, map_range0]
                  rw [f1']
                  rfl
                · simp only [Instr.buildSlice, Sem.run_bind, run_underlying (und_of hV hu), (size_of' hV w hs).2, Result.andThen_ok, if_neg hbig, if_neg h0, hmap, Sem.run_pure, h1, f1]
                  rfl
              · cases h
            · cases h
        · cases h
      · cases h
    · cases h
  all_goals first
    | exact (fLoad_nr _ _ h).elim
    | exact (fNilCheck_nr _ _ h).elim
    | exact (fBin_nr _ _ h).elim
    | exact (fUn_nr _ _ h).elim
    | exact (fConv_nr _ _ h).elim
    | exact (fIface_nr _ _ h).elim
    | exact (fFunc_nr _ _ h).elim
    | exact (fFieldAddr_nr _ _ h).elim
    | exact (fField_nr _ _ h).elim
    | exact (fIndexAddr_nr _ _ h).elim
    | exact (fIndex_nr _ _ h).elim
    | exact (fExtract_nr _ _ h).elim
    | exact (fCall_nr _ _ h).elim
    | cases h

end
end Go.Proofs.Ytcpffiihdnecjaa.Ev
