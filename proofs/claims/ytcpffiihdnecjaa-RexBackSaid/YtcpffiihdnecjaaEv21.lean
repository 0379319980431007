/- The evaluator: append, all of it. -/
import Derived.Test.YtcpffiihdnecjaaEv20
namespace Go.Proofs.Ytcpffiihdnecjaa.Ev
set_option linter.unusedSectionVars false
set_option linter.unusedSimpArgs false
set_option linter.unusedVariables false
open Go

theorem len0 {cs : List AV} {us : Array Value} {φ : Emb} (h : VsRel φ cs us.toList) (h0 : cs.length = 0) : us = #[] := by
  have := h.length
  rw [h0] at this
  cases us with
  | mk l =>
    cases l with
    | nil => rfl
    | cons a b => simp at this

theorem loadsRaw {P : Program} {w : World} {B o n : Nat} {c : Array Value} {e : TypeId} {fz : Nat × Nat} (h : w.heap[B]? = some (.cells c e fz)) (hn : o + n ≤ c.size) :
    (loadCells ⟨B, o + 0, none⟩ n).run P w = .ok (c.extract o (o + n)) w := by
  unfold loadCells
  rw [loadCellsFrom_run h n 0 0 (c.extract o (o + n)).toList #[] (by rw [Array.length_toList, Array.size_extract]; omega) (fun j hj => by
    rw [Array.getElem?_toList, Array.getElem?_extract, if_pos (by omega)]
    congr 1)]
  rw [Array.toArray_toList, Array.empty_append]

section
variable {V : Env} (hV : EnvOk V) {N : Nat} {φ : Emb} {M : Mem} {w : World} (R : Rep V.P V.G N φ M w)
variable {ts : Array TypeId} {t t' e ty : TypeId} {d : TypeDesc} {ti : TypeInfo} {z : AV} (h0 : ts[0]? = some t) (h1 : ts[1]? = some t') (hu : V.E.und t = some (.slice e)) (hu' : V.E.und t' = some d)
  (hd : ∀ k, d ≠ .int k) (hti : V.E.tys.get e = some ti) (hz : V.E.zero e = some z) (hb : ti.bytes ≠ 0) (hzl : z.cells.length = ti.size)
include hV R h0 h1 hu hu' hd hti hz hb hzl

theorem appendLoose1_ok {b len cap' n : Nat} {l : Loc} {r : Row} {xu : Value} {new : List AV} {cells : T AV} {cls ep : Nat} {v : AV} {M' : Mem} (hl : φ b = some l) (hr : M.row b = some r) (hG : V.G ≤ b)
    (hlen : (Builtin.lenOf xu).run V.P w = .ok n w) (hf : ∀ w', w'.heap = w.heap → ∃ us : Array Value, (Builtin.firstCells ti.size n xu).run V.P w' = .ok us w' ∧ VsRel φ new us.toList) (hnl : new.length = n * ti.size)
    (hones : new.all AV.one = true) (he : r.elem = e) (hrl : r.len = len * ti.size) (hfr : r.fr ≤ r.len) (hc : setsFrom r.cells r.len new = some cells)
    (hcls : (r.cls = 0 ∧ cls = M.next ∧ ep = 0) ∨ (r.cls ≠ 0 ∧ cls = r.cls ∧ ep = r.ep)) (hcap : len ≤ cap') (hroom : cap' * l.esz ≤ l.room) (hbig : 2 * (len + n) * ti.bytes < 140737488355328)
    (h : appendLoose1 M r b (len + n) new cells cls ep = some (v, M')) :
    ∃ φ' q w', (Builtin.append_ ts ty #[.slice (some (l.addr 0)) len cap', xu]).run V.P w = .ok q w' ∧ VRel φ' v q ∧ Rep V.P V.G N φ' M' w' ∧ Ext φ M φ' ∧ Kept N w w' ∧ Unm φ M M' := by
  have hsz : V.E.size e = some ti.size := by unfold Tab.size; rw [hti]
  obtain ⟨⟨c, fz, hw, hs, hes, hwh, hlv⟩, hlive⟩ := R.rowAt hr hl
  obtain ⟨hsp, hlen', hfz, hcell⟩ := hlv hlive
  obtain ⟨hg, _⟩ := row_spec hr
  have hesz : l.esz = ti.size := by rw [← hes, he]; exact (size_of' hV w hsz).1
  have hdom := R.dom b l hl
  have hbn := hdom.1
  have hfresh : φ M.next = none := R.fresh (Nat.le_refl _)
  unfold appendLoose1 at h
  split at h
  · rename_i heap hheap
    split at h
    · rename_i eps heps
      split at h
      · rename_i M1 hM1
        cases h
        obtain ⟨k1, k2, k3⟩ := push_spec hM1
        have hhg := T.set_get _ _ _ _ hheap
        have heg := T.set_get _ _ _ _ heps
        have k3' : ∀ k, M'.heap.get k = if k = M.next then some (.row { cells, len := r.len + new.length, cls, ep := ep + 1, fr := r.fr, elem := r.elem, whole := false, sh := r.sh, ub := r.ub }) else if k = b then some (.row { r with cls, ep }) else M.heap.get k := by
          intro k
          rw [k3]
          by_cases hk : k = M.next
          · rw [if_pos hk, if_pos hk]
          · rw [if_neg hk, if_neg hk]; exact hhg k
        have k2' : ∀ k, M'.eps.get k = if k = cls then some (ep + 1) else M.eps.get k := by
          intro k; rw [k2]; exact heg k
        -- what the new row's cells are, over a block that begins as the old one did, the new cells behind
        have newRel : ∀ (φ' : Emb) (w' : World) (l' : Loc) (c' : Array Value) (fz' : Nat × Nat) (us : Array Value), φ.le φ' → w'.heap[l'.blk]? = some (.cells c' r.elem fz') → l'.off + l'.room = c'.size → V.P.cellsOf r.elem = l'.esz →
            r.len + new.length ≤ l'.room → (fz'.1 = fz'.2 ∨ fz'.2 ≤ l'.off + r.fr ∨ (r.sh = true ∧ c'.size ≤ fz'.1)) → VsRel φ new us.toList →
            (∀ i, i < r.len → ∀ v, r.cells.get i = some v → c'[l'.off + i]? = c[l.off + i]?) → (∀ i, i < new.length → c'[l'.off + (r.len + i)]? = us[i]?) →
            (r.ub = true → l'.room < 9223372036854775808 ∧ ∀ j, r.len + new.length ≤ j → j < l'.room → c'[l'.off + j]? = some (.int .u8 0)) → RowRel V.P φ' M' w' { cells, len := r.len + new.length, cls, ep := ep + 1, fr := r.fr, elem := r.elem, whole := false, sh := r.sh, ub := r.ub } l' := by
          intro φ' w' l' c' fz' us hle g1 g2 g3 g4 g5 g6 g7 g8 g9
          refine ⟨c', fz', g1, g2, g3, fun hx => (by cases hx), fun _ => ⟨fun hub => ⟨(hsp hub).1, g9 hub⟩, g4, g5, fun i v hv => ?_⟩⟩
          have hget := setsFrom_get hc i
          simp only at hv
          rw [hget] at hv
          by_cases hin : r.len ≤ i ∧ i < r.len + new.length
          · rw [if_pos hin] at hv
            obtain ⟨u, hu1, hu2⟩ := g6.get _ _ hv
            refine ⟨hin.2, u, ?_, hu2.mono hle⟩
            have := g8 (i - r.len) (by omega)
            rw [show r.len + (i - r.len) = i by omega] at this
            rw [this, ← Array.getElem?_toList]
            exact hu1
          · rw [if_neg hin] at hv
            obtain ⟨q1, u, q2, q3⟩ := hcell i v hv
            exact ⟨show i < r.len + new.length by omega, u, by rw [g7 i q1 v hv]; exact q2, q3.mono hle⟩
        by_cases hin : len + n ≤ cap'
        · -- in place
          obtain ⟨us, hus, husr⟩ := hf w rfl
          have husl : us.toList.length = n * ti.size := by rw [← husr.length]; exact hnl
          have hfit : (len + n) * ti.size ≤ l.room := by
            rw [hesz] at hroom
            exact Nat.le_trans (Nat.mul_le_mul_right _ hin) hroom
          rw [Nat.add_mul] at hfit
          obtain ⟨w', hrun, hupd⟩ := storeCells_run (P := V.P) (k := len * ti.size) (o := l.off) us.toList 0 w c hw (by rw [husl]; omega) (by omega) (husr.ones hones)
          have hwr := writeAt_get us.toList c (l.off + len * ti.size + 0) (by rw [husl]; omega)
          obtain ⟨r1, r2, r3⟩ := R.sib (l' := l) (w' := w') hl hr hG hcls k1 k2' k3' rfl rfl (by rw [hupd.size]; exact Nat.le_refl _) (by rw [hupd.size]; exact hdom.2.1) (hdom.2.2 hG) (.inl rfl)
            (fun k _ hk => hupd.other k hk) hw hupd.here (writeAt_size _ _ _)
            (newRel _ w' l _ fz us (Emb.le_with _ hfresh) hupd.here (by rw [writeAt_size]; exact hs) hes (by rw [hrl, hnl]; omega) (by rw [writeAt_size]; exact hfz) husr
              (fun i hi v hv => by rw [hwr, if_neg (by omega)])
              (fun i hi => by rw [hwr, if_pos (by rw [husl]; omega), ← Array.getElem?_toList]; congr 1; omega)
              (fun hub => ⟨(hsp hub).2.1, fun j hj1 hj2 => by rw [hwr, if_neg (by rw [husl]; omega)]; exact (hsp hub).2.2 j (by omega) hj2⟩))
          refine ⟨_, _, w', app_in h0 h1 (und_of hV hu) (und_of hV hu') (fun w => (size_of' hV w hsz).2) hd hlen hus hin (.inr ⟨_, rfl, ?_⟩), ?_, r1, r2, hupd.kept (hdom.2.2 hG), r3⟩
          · rw [Loc.addr_add, Nat.zero_add]; exact hrun
          · have : l.addr 0 = Loc.addr l 0 := rfl
            refine VRel.slice M.next 0 (len + n) (unk + (len + n)) l cap' (Emb.with_same _ _ _) hin (fun hx => by omega) (fun _ => ⟨by omega, by omega⟩)
        · -- anew
          obtain ⟨us, hus, husr⟩ := hf { w with drawn := w.drawn + 1 } rfl
          have husl : us.size = n * ti.size := by rw [← Array.length_toList, ← husr.length]; exact hnl
          obtain ⟨zu, hzr, hzv⟩ : ∃ zu, (∀ w, (zeroValue e).run V.P w = .ok zu w) ∧ VRel φ z zu := by
            unfold Tab.zero at hz
            rw [hti] at hz
            simp only at hz
            split at hz
            · rename_i u hu2
              refine ⟨u, fun w => ?_, ofVal_rel 4 u z hz⟩
              simp only [zeroValue, Sem.run_bind, typeInfo_ok hV w hti, Result.andThen_ok, hu2]
              rfl
            · cases hz
          have hzs : zu.cells.size = ti.size := by rw [← hzl, hzv.cells.length, Array.length_toList]
          have hold : (Builtin.firstCells ti.size len (.slice (some (l.addr 0)) len cap')).run V.P { w with drawn := w.drawn + 1 } = .ok (c.extract l.off (l.off + len * ti.size)) { w with drawn := w.drawn + 1 } := by
            simp only [Builtin.firstCells]
            exact loadsRaw (P := V.P) (w := { w with drawn := w.drawn + 1 }) hw (o := l.off) (n := len * ti.size) (by omega)
          obtain ⟨newCap, g1, gb, g2⟩ := app_grow (P := V.P) (w := w) (ty := ty) h0 h1 (und_of hV hu) (und_of hV hu') (fun w => (size_of' hV w hsz).2) hd (fun w => typeInfo_ok hV w hti) hzr hlen hold hus (by omega) hb hbig
          have hol : (c.extract l.off (l.off + len * ti.size)).size = len * ti.size := by
            rw [Array.size_extract]; omega
          have hcs : (c.extract l.off (l.off + len * ti.size) ++ us ++ Builtin.zeroCells zu.cells (newCap - (len + n))).size = newCap * ti.size := by
            rw [Array.size_append, Array.size_append, hol, husl, zeroCells_size, hzs, ← Nat.add_mul, ← Nat.add_mul]
            congr 1
            omega
          generalize hCC : c.extract l.off (l.off + len * ti.size) ++ us ++ Builtin.zeroCells zu.cells (newCap - (len + n)) = C at g2 hcs
          have hC1 : ∀ i, i < len * ti.size → C[i]? = c[l.off + i]? := by
            intro i hi
            rw [← hCC, Array.append_assoc, Array.getElem?_append_left (by omega), Array.getElem?_extract]
            rw [if_pos (by omega)]
          have hC2 : ∀ i, i < n * ti.size → C[len * ti.size + i]? = us[i]? := by
            intro i hi
            rw [← hCC, Array.append_assoc, Array.getElem?_append_right (by omega), hol, Nat.add_sub_cancel_left, Array.getElem?_append_left (by omega)]
          obtain ⟨r1, r2, r3⟩ := R.sib (l' := ⟨w.heap.size, 0, newCap * ti.size, ti.size⟩) (w' := wpush { w with drawn := w.drawn + 1 } (.cells C e)) hl hr hG hcls k1 k2' k3' rfl rfl (by simp [wpush]) (by simp [wpush]) R.heap (.inr (Nat.le_refl _))
            (fun k hk _ => by rw [wpush_get]; exact if_neg (by show ¬ k = w.heap.size; omega)) hw (c' := c) (fz' := fz) (by rw [wpush_get, if_neg (by show ¬ l.blk = w.heap.size; have := hdom.2.1; omega)]; exact hw) rfl
            (newRel _ _ ⟨w.heap.size, 0, newCap * ti.size, ti.size⟩ C (0, 0) us (Emb.le_with _ hfresh) (by rw [wpush_get]; exact (if_pos rfl).trans (by rw [he])) (by rw [hcs]; simp) (by rw [hes, hesz]) (by
                show r.len + new.length ≤ newCap * ti.size
                rw [hrl, hnl, ← Nat.add_mul]; exact Nat.mul_le_mul_right _ g1) (.inl rfl) husr
              (fun i hi v hv => by rw [show (Loc.mk w.heap.size 0 (newCap * ti.size) ti.size).off + i = i by simp]; exact hC1 i (by omega))
              (fun i hi => by rw [show (Loc.mk w.heap.size 0 (newCap * ti.size) ti.size).off + (r.len + i) = len * ti.size + i by rw [hrl]; simp]; exact hC2 i (by omega))
              (fun hub => by
                have hzu : zu = .int .u8 0 := by
                  have h1 := (hsp hub).1 w
                  rw [he, hzr w] at h1
                  cases h1; rfl
                subst hzu
                have hts : ti.size = 1 := hzs.symm
                refine ⟨by show newCap * ti.size < _; rw [hts, Nat.mul_one]; exact gb, fun j hj1 hj2 => ?_⟩
                have hj2 : j < newCap * ti.size := hj2
                rw [hts, Nat.mul_one] at hj2
                rw [hrl, hnl, hts, Nat.mul_one, Nat.mul_one] at hj1
                show C[0 + j]? = _
                rw [Nat.zero_add, ← hCC, Array.getElem?_append_right (by rw [Array.size_append, hol, husl, hts]; omega)]
                refine zeroCells_get _ _ _ ?_
                rw [Array.size_append, hol, husl, hts]; show _ < (newCap - (len + n)) * 1; omega))
          refine ⟨_, _, _, g2, ?_, r1, r2, (kept_drawn N w).trans (wpush_kept _ _ R.heap), r3⟩
          refine VRel.slice M.next 0 (len + n) (unk + (len + n)) ⟨w.heap.size, 0, newCap * ti.size, ti.size⟩ newCap (Emb.with_same _ _ _) g1 (fun hx => by omega) (fun _ => ⟨by omega, ?_⟩)
          show 0 + newCap * ti.size ≤ newCap * ti.size
          omega
      · cases h
    · cases h
  · cases h

theorem appendLoose_ok {b i len cap n : Nat} {su xu : Value} {new : List AV} {v : AV} {M' : Mem} (hx : VRel φ (.slice b i len cap) su) (hcu : unk ≤ cap) (hE : ¬ (len = 0 ∧ cap = unk))
    (hlen : (Builtin.lenOf xu).run V.P w = .ok n w) (hf : ∀ w', w'.heap = w.heap → ∃ us : Array Value, (Builtin.firstCells ti.size n xu).run V.P w' = .ok us w' ∧ VsRel φ new us.toList) (hnl : new.length = n * ti.size)
    (h : appendLoose V.G M e ti.size ti.bytes b i len cap n new = some (v, M')) :
    ∃ φ' q w', (Builtin.append_ ts ty #[su, xu]).run V.P w = .ok q w' ∧ VRel φ' v q ∧ Rep V.P V.G N φ' M' w' ∧ Ext φ M φ' ∧ Kept N w w' ∧ Unm φ M M' := by
  have hsz : V.E.size e = some ti.size := by unfold Tab.size; rw [hti]
  have hx' := hx
  cases hx with
  | sliceE => exact absurd ⟨rfl, rfl⟩ hE
  | slice _ _ _ _ l cap' hl q0 q1 q2 =>
    obtain ⟨q3, q4⟩ := q2 hcu
    unfold appendLoose at h
    cases hn0 : Nat.beq n 0
    · rw [hn0, cond_false] at h
      cases hc1 : (Nat.blt (2 * (len + n) * ti.bytes) 140737488355328 && Nat.beq i 0)
      · rw [hc1] at h; cases h
      · rw [hc1, cond_true] at h
        simp only [Bool.and_eq_true] at hc1
        have hi := Nat.eq_of_beq_eq_true hc1.2
        subst hi
        split at h
        · rename_i r hr
          cases hc2 : (Nat.beq r.elem e && Nat.beq r.len (len * ti.size) && Nat.ble r.fr r.len && new.all AV.one && !Nat.blt b V.G)
          · rw [hc2] at h; cases h
          · rw [hc2, cond_true] at h
            simp only [Bool.and_eq_true, Bool.not_eq_true'] at hc2
            obtain ⟨⟨⟨⟨p1, p2⟩, p3⟩, p4⟩, p5⟩ := hc2
            have p1 := Nat.eq_of_beq_eq_true p1
            have p2 := Nat.eq_of_beq_eq_true p2
            have p3 := Nat.le_of_ble_eq_true p3
            have p5 := blt_false p5
            split at h
            · rename_i cells hcells
              cases hc0 : Nat.beq r.cls 0
              · rw [hc0, cond_false] at h
                exact appendLoose1_ok hV R h0 h1 hu hu' hd hti hz hb hzl hl hr p5 hlen hf hnl p4 p1 p2 p3 hcells (.inr ⟨(fun e => by rw [e] at hc0; cases hc0), rfl, rfl⟩) q0 (by omega) (blt_true hc1.1) h
              · rw [hc0, cond_true] at h
                exact appendLoose1_ok hV R h0 h1 hu hu' hd hti hz hb hzl hl hr p5 hlen hf hnl p4 p1 p2 p3 hcells (.inl ⟨Nat.eq_of_beq_eq_true hc0, rfl, rfl⟩) q0 (by omega) (blt_true hc1.1) h
            · cases h
        · cases h
    · rw [hn0, cond_true] at h
      have := Nat.eq_of_beq_eq_true hn0
      subst this
      cases h
      obtain ⟨us, hus, husr⟩ := hf w rfl
      have := len0 husr (by rw [hnl, Nat.zero_mul])
      subst this
      exact ⟨φ, _, w, app_in h0 h1 (und_of hV hu) (und_of hV hu') (fun w => (size_of' hV w hsz).2) hd hlen hus (by omega) (.inr ⟨_, rfl, rfl⟩), hx', R, .refl _ _, .refl _ _, .refl _ _⟩

theorem appendA1_ok {s : AV} {su xu : Value} {n : Nat} {new : List AV} {v : AV} {M' : Mem} (hs : VRel φ s su) (hlen : (Builtin.lenOf xu).run V.P w = .ok n w)
    (hf : ∀ w', w'.heap = w.heap → ∃ us : Array Value, (Builtin.firstCells ti.size n xu).run V.P w' = .ok us w' ∧ VsRel φ new us.toList) (hnl : new.length = n * ti.size)
    (h : appendA1 V M e ti.size ti.bytes s n new = some (v, M')) :
    ∃ φ' q w', (Builtin.append_ ts ty #[su, xu]).run V.P w = .ok q w' ∧ VRel φ' v q ∧ Rep V.P V.G N φ' M' w' ∧ Ext φ M φ' ∧ Kept N w w' ∧ Unm φ M M' := by
  have hsz : V.E.size e = some ti.size := by unfold Tab.size; rw [hti]
  have hsw : ∀ w, (sizeOf e).run V.P w = .ok ti.size w := fun w => (size_of' hV w hsz).2
  have none_ : n = 0 → ∀ base sLen sCap, sLen ≤ sCap → (Builtin.append_ ts ty #[.slice base sLen sCap, xu]).run V.P w = .ok (.slice base sLen sCap) w := by
    intro hn base sLen sCap hle
    subst hn
    obtain ⟨us, hus, husr⟩ := hf w rfl
    have := len0 husr (by rw [hnl, Nat.zero_mul])
    subst this
    cases base with
    | none => exact app_in h0 h1 (und_of hV hu) (und_of hV hu') hsw hd hlen hus hle (.inl ⟨rfl, rfl⟩)
    | some a => exact app_in h0 h1 (und_of hV hu) (und_of hV hu') hsw hd hlen hus hle (.inr ⟨a, rfl, rfl⟩)
  -- within room that is known
  have inroom : ∀ (b i len cap cap' : Nat) (l : Loc), φ b = some l → len + n ≤ cap' → (cap < unk → cap' = cap) → (unk ≤ cap → cap - unk ≤ cap' ∧ i + cap' * l.esz ≤ l.room) →
      withSl (.slice b i (len + n) cap) (M.stores V.G b (i + len * ti.size) new) = some (v, M') → 
      ∃ φ' q w', (Builtin.append_ ts ty #[.slice (some (l.addr i)) len cap', xu]).run V.P w = .ok q w' ∧ VRel φ' v q ∧ Rep V.P V.G N φ' M' w' ∧ Ext φ M φ' ∧ Kept N w w' ∧ Unm φ M M' := by
    intro b i len cap cap' l hl hle k1 k2 h
    obtain ⟨rfl, hst⟩ := withSl_inv R h
    obtain ⟨us, hus, husr⟩ := hf w rfl
    obtain ⟨w', r1, r2, r3, r4⟩ := stores_rep R hl hst husr
    exact ⟨φ, _, w', app_in h0 h1 (und_of hV hu) (und_of hV hu') hsw hd hlen hus hle (.inr ⟨_, rfl, by rw [Loc.addr_add]; exact r1⟩), .slice b i (len + n) cap l cap' hl hle k1 k2, r2, .refl _ _, r3, r4⟩
  unfold appendA1 at h
  split at h
  · -- nil
    cases hs
    cases hn0 : Nat.beq n 0
    · rw [hn0, cond_false] at h
      have hn : n ≠ 0 := fun e => by rw [e] at hn0; cases hn0
      have h' : appendNew M (ubOf V e) e ti.bytes (0 + n) (some []) new = some (v, M') := by rw [Nat.zero_add]; exact h
      exact appendNew_ok hV R h0 h1 hu hu' hd hti hz hb hzl hlen (fun cs e => by cases e; exact ⟨by simp, fun w' _ => ⟨#[], rfl, .nil⟩⟩) ⟨hnl, hf⟩ (by omega) h'
    · rw [hn0, cond_true] at h
      cases h
      exact ⟨φ, _, w, none_ (Nat.eq_of_beq_eq_true hn0) none 0 0 (Nat.le_refl _), .snil, R, .refl _ _, .refl _ _, .refl _ _⟩
  · rename_i b i len cap
    cases hcu : Nat.blt cap unk
    · rw [hcu, cond_false] at h
      have hcu := blt_false hcu
      cases hE : (Nat.beq len 0 && Nat.beq cap unk)
      · rw [hE, cond_false] at h
        have hE' : ¬ (len = 0 ∧ cap = unk) := fun ⟨a, b⟩ => by rw [a, b] at hE; cases hE
        cases hr : Nat.ble (unk + (len + n)) cap
        · rw [hr, cond_false] at h
          exact appendLoose_ok hV R h0 h1 hu hu' hd hti hz hb hzl hs hcu hE' hlen hf hnl h
        · rw [hr, cond_true] at h
          have hr := Nat.le_of_ble_eq_true hr
          cases hs with
          | sliceE => exact absurd ⟨rfl, rfl⟩ hE'
          | slice _ _ _ _ l cap' hl q0 q1 q2 =>
            obtain ⟨q3, q4⟩ := q2 hcu
            exact inroom b i len cap cap' l hl (by omega) q1 q2 h
      · rw [hE, cond_true] at h
        cases hn0 : Nat.beq n 0
        · rw [hn0] at h; cases h
        · rw [hn0, cond_true] at h
          cases h
          have hn := Nat.eq_of_beq_eq_true hn0
          cases hs with
          | sliceE => exact ⟨φ, _, w, none_ hn _ _ _ (Nat.le_refl _), .sliceE _ _ _, R, .refl _ _, .refl _ _, .refl _ _⟩
          | slice _ _ _ _ l cap' hl q0 q1 q2 => exact ⟨φ, _, w, none_ hn _ _ _ q0, .slice _ _ _ _ l cap' hl q0 q1 q2, R, .refl _ _, .refl _ _, .refl _ _⟩
    · rw [hcu, cond_true] at h
      have hcu := blt_true hcu
      cases hs with
      | sliceE => exact absurd hcu (Nat.lt_irrefl _)
      | slice _ _ _ _ l cap' hl q0 q1 q2 =>
        have := q1 hcu
        subst this
        cases hle : Nat.ble (len + n) cap'
        · rw [hle, cond_false] at h
          have hlt : cap' < len + n := by
            rcases Nat.lt_or_ge cap' (len + n) with h' | h'
            · exact h'
            · rw [Nat.ble_eq_true_of_le h'] at hle; cases hle
          refine appendNew_ok hV R h0 h1 hu hu' hd hti hz hb hzl hlen (fun cs e => ⟨loads_len e, fun w' hw' => ?_⟩) ⟨hnl, hf⟩ hlt h
          exact firstCells_sl (R.drawn hw') (x := .pnil) (.slice b i len cap' l cap' hl q0 q1 q2) (Nat.le_refl _) e
        · rw [hle, cond_true] at h
          exact inroom b i len cap' cap' l hl (Nat.le_of_ble_eq_true hle) q1 q2 h
  · cases h

end

section
variable {V : Env} (hV : EnvOk V) {N : Nat} {φ : Emb} {M : Mem} {w : World} (R : Rep V.P V.G N φ M w)
include hV R

theorem appendA_ok {ts : Array TypeId} {t t' e ty : TypeId} {d : TypeDesc} (h0 : ts[0]? = some t) (h1 : ts[1]? = some t') (hu : V.E.und t = some (.slice e)) (hu' : V.E.und t' = some d)
    (hd : ∀ k, d ≠ .int k) {s x : AV} {su xu : Value} {v : AV} {M' : Mem} (hs : VRel φ s su) (hx : VRel φ x xu) (h : appendA V M e s x = some (v, M')) :
    ∃ φ' q w', (Builtin.append_ ts ty #[su, xu]).run V.P w = .ok q w' ∧ VRel φ' v q ∧ Rep V.P V.G N φ' M' w' ∧ Ext φ M φ' ∧ Kept N w w' ∧ Unm φ M M' := by
  unfold appendA at h
  split at h
  · rename_i ti z hti hz
    cases hc : (Nat.beq ti.size 0 || Nat.beq ti.bytes 0 || !Nat.beq z.cells.length ti.size)
    · rw [hc, cond_false] at h
      simp only [Bool.or_eq_false_iff, Bool.not_eq_false'] at hc
      obtain ⟨⟨c1, c2⟩, c3⟩ := hc
      split at h
      · rename_i n new hn
        obtain ⟨n1, _⟩ := needCells_ok R hx hn
        exact appendA1_ok hV R h0 h1 hu hu' hd hti hz (fun e => by rw [e] at c2; cases c2) (Nat.eq_of_beq_eq_true c3) hs n1 (fun w' hw' => (needCells_ok (R.drawn hw') hx hn).2) (needCells_len hn) h
      · cases h
    · rw [hc] at h; cases h
  · cases h

end
end Go.Proofs.Ytcpffiihdnecjaa.Ev
