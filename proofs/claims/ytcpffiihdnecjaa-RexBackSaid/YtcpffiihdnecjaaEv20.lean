/- The evaluator: append. -/
import Derived.Test.YtcpffiihdnecjaaEv19
namespace Go.Proofs.Ytcpffiihdnecjaa.Ev
set_option linter.unusedSectionVars false
set_option linter.unusedSimpArgs false
set_option linter.unusedVariables false
open Go

/-- A world in which more has been drawn. -/
theorem Rep.drawn {P : Program} {G N : Nat} {φ : Emb} {M : Mem} {w w' : World} (R : Rep P G N φ M w) (h : w'.heap = w.heap) : Rep P G N φ M w' := by
  refine ⟨fun k q hq => ?_, fun k q hq => ?_, R.apart, R.eps, R.top, by rw [h]; exact R.heap, R.gn, R.ng, R.glob⟩
  · rw [h]; exact R.dom k q hq
  · obtain ⟨o, ho, hor⟩ := R.blk k q hq
    exact ⟨o, ho, hor.keep φ.le_refl (by rw [h]) (fun s _ hs => hs)⟩

theorem kept_drawn (N : Nat) (w : World) : Kept N w { w with drawn := w.drawn + 1 } := ⟨rfl, rfl, rfl, Nat.le_refl _, fun _ _ => rfl⟩

theorem loads_len {M : Mem} {b i n : Nat} {cs : List AV} (h : M.loads b i n = some cs) : cs.length = n := by
  unfold Mem.loads at h
  cases hn : Nat.beq n 0
  · rw [hn, cond_false] at h
    split at h
    · exact (getsFrom_get h).1
    · cases h
  · rw [hn, cond_true] at h
    cases h
    exact (Nat.eq_of_beq_eq_true hn).symm

theorem needCells_len {V : Env} {size : Nat} {x : AV} {M : Mem} {n : Nat} {cs : List AV} (h : needCells V size x M = some (n, cs)) : cs.length = n * size := by
  unfold needCells at h
  split at h
  · split at h
    · rename_i hcs
      cases h
      exact loads_len hcs
    · cases h
  · cases h; simp
  · cases hc : Nat.beq size 1
    · rw [hc] at h; cases h
    · rw [hc, cond_true] at h
      cases h
      rw [unpackA_len, Nat.eq_of_beq_eq_true hc, Nat.mul_one]
  · cases h

theorem zeroCells_get (z : Value) (n j : Nat) (h : j < n * #[z].size) : (Builtin.zeroCells #[z] n)[j]? = some z := by
  have h : j < n := by simpa using h
  simp [Builtin.zeroCells, h, Nat.mod_one]

theorem ub_zero {V : Env} {e : TypeId} {z : AV} {zu : Value} {φ : Emb} (hz : V.E.zero e = some z) (hub : ubOf V e = true) (hzv : VRel φ z zu) : zu = .int .u8 0 := by
  unfold ubOf at hub
  rw [hz] at hub
  split at hub
  · rename_i h
    cases h
    cases hzv
    rfl
  · cases hub

theorem zeroCells_size (z : Array Value) (n : Nat) : (Builtin.zeroCells z n).size = n * z.size := by simp [Builtin.zeroCells]

theorem pushSl_inv {M : Mem} {ub : Bool} {r : Option Row} {n : Nat} {v : AV} {M' : Mem} (h : pushSl M ub r n = some (v, M')) : ∃ r', r = some r' ∧ v = .slice M.next 0 n (unk + n) ∧ M.push (.row { r' with ub }) = some M' := by
  unfold pushSl at h
  split at h
  · split at h
    · rename_i hp
      cases h
      exact ⟨_, rfl, rfl, hp⟩
    · cases h
  · cases h

section
variable {V : Env} (hV : EnvOk V) {N : Nat} {φ : Emb} {M : Mem} {w : World} (R : Rep V.P V.G N φ M w)
include R

/-- A new row of known cells, with room behind. -/
theorem grown {e : TypeId} {size need newCap : Nat} (hes : V.P.cellsOf e = size) {cs : List AV} {us rest : Array Value} (hv : VsRel φ cs us.toList) (hlen : cs.length = need * size) (hle : need ≤ newCap)
    (hrest : rest.size = (newCap - need) * size) {v : AV} {M' : Mem} (ub : Bool) (hub : ub = true → (∀ w, (zeroValue e).run V.P w = .ok (.int .u8 0) w) ∧ newCap * size < 9223372036854775808 ∧ ∀ j, j < rest.size → rest[j]? = some (.int .u8 0)) (h : pushSl M ub (rowOf e false cs) need = some (v, M')) :
    ∃ φ', VRel φ' v (.slice (some ⟨w.heap.size, 0, none⟩) need newCap) ∧ Rep V.P V.G N φ' M' (wpush w (.cells (us ++ rest) e)) ∧ Ext φ M φ' ∧ Kept N w (wpush w (.cells (us ++ rest) e)) ∧ Unm φ M M' := by
  obtain ⟨r, hr, rfl, hp⟩ := pushSl_inv h
  have hul : us.size = need * size := by rw [← hlen, hv.length, Array.length_toList]
  have hcs : (us ++ rest).size = newCap * size := by
    rw [Array.size_append, hul, hrest, ← Nat.add_mul]
    congr 1
    omega
  have hn := R.fresh (Nat.le_refl M.next)
  have hlone : loneB (.row r) := rowOf_lone hr
  obtain ⟨r1, r2, r3, r4⟩ := R.bothPush (l := ⟨w.heap.size, 0, newCap * size, size⟩) (obj := .cells (us ++ rest) e) hp hlone rfl
    (rowOf_relU (rest := rest.toList) hr (hv.mono (Emb.le_with _ hn)) (by rw [wpush_get, if_pos rfl]) (by simp) rfl hcs.symm hes (fun h => by cases h) ub (fun h => ⟨(hub h).1, (hub h).2.1, fun j hj => by rw [Array.getElem?_toList]; exact (hub h).2.2 j (by simpa using hj)⟩))
  refine ⟨_, ?_, r1, r2, r3, r4⟩
  refine VRel.slice M.next 0 need (unk + need) ⟨w.heap.size, 0, newCap * size, size⟩ newCap (Emb.with_same _ _ _) hle (fun h => by omega) (fun _ => ⟨by omega, ?_⟩)
  show 0 + newCap * size ≤ newCap * size
  omega

variable {ts : Array TypeId} {t t' e ty : TypeId} {d : TypeDesc} {ti : TypeInfo} {z : AV} (h0 : ts[0]? = some t) (h1 : ts[1]? = some t') (hu : V.E.und t = some (.slice e)) (hu' : V.E.und t' = some d)
  (hd : ∀ k, d ≠ .int k) (hti : V.E.tys.get e = some ti) (hz : V.E.zero e = some z) (hb : ti.bytes ≠ 0) (hzl : z.cells.length = ti.size)
include hV h0 h1 hu hu' hd hti hz hb hzl

/-- Anew. -/
theorem appendNew_ok {base : Option Addr} {sLen sCap n : Nat} {xu : Value} {old : Option (List AV)} {new : List AV} {v : AV} {M' : Mem} (hl : (Builtin.lenOf xu).run V.P w = .ok n w)
    (hold : ∀ cs, old = some cs → cs.length = sLen * ti.size ∧ ∀ w', w'.heap = w.heap → ∃ us : Array Value, (Builtin.firstCells ti.size sLen (.slice base sLen sCap)).run V.P w' = .ok us w' ∧ VsRel φ cs us.toList)
    (hnew : new.length = n * ti.size ∧ ∀ w', w'.heap = w.heap → ∃ us : Array Value, (Builtin.firstCells ti.size n xu).run V.P w' = .ok us w' ∧ VsRel φ new us.toList) (hle : sCap < sLen + n)
    (h : appendNew M (ubOf V e) e ti.bytes (sLen + n) old new = some (v, M')) :
    ∃ φ' q w', (Builtin.append_ ts ty #[.slice base sLen sCap, xu]).run V.P w = .ok q w' ∧ VRel φ' v q ∧ Rep V.P V.G N φ' M' w' ∧ Ext φ M φ' ∧ Kept N w w' ∧ Unm φ M M' := by
  have hsz : V.E.size e = some ti.size := by unfold Tab.size; rw [hti]
  unfold appendNew at h
  cases hbig : Nat.blt (2 * (sLen + n) * ti.bytes) 140737488355328
  · rw [hbig] at h; cases h
  · rw [hbig, cond_true] at h
    have hbig := blt_true hbig
    split at h
    · rename_i cs
      obtain ⟨q1, q2⟩ := hold cs rfl
      obtain ⟨ou, q3, q4⟩ := q2 { w with drawn := w.drawn + 1 } rfl
      obtain ⟨p1, p2⟩ := hnew
      obtain ⟨nu, p3, p4⟩ := p2 { w with drawn := w.drawn + 1 } rfl
      obtain ⟨zu, hzr, hzv⟩ : ∃ zu, (∀ w, (zeroValue e).run V.P w = .ok zu w) ∧ VRel φ z zu := by
        unfold Tab.zero at hz
        rw [hti] at hz
        simp only at hz
        split at hz
        · rename_i u hu2
          refine ⟨u, fun w => ?_, ofVal_rel 4 u z hz⟩
          simp only [zeroValue, Sem.run_bind, typeInfo_ok hV w hti, Result.andThen_ok, hu2]
          rfl
        · cases hz
      obtain ⟨newCap, g1, gb, g2⟩ := app_grow (P := V.P) (w := w) (ty := ty) h0 h1 (und_of hV hu) (und_of hV hu') (fun w => (size_of' hV w hsz).2) hd (fun w => typeInfo_ok hV w hti) hzr hl q3 p3 hle hb hbig
      have hzs : zu.cells.size = ti.size := by rw [← hzl, hzv.cells.length, Array.length_toList]
      have hvs : VsRel φ (cs ++ new) (ou ++ nu).toList := by rw [Array.toList_append]; exact q4.append p4
      obtain ⟨φ', a1, a2, a3, a4, a5⟩ := grown (w := { w with drawn := w.drawn + 1 }) (R.drawn rfl) (size_of' hV w hsz).1 hvs (by rw [List.length_append, q1, p1, ← Nat.add_mul]) g1
        (rest := Builtin.zeroCells zu.cells (newCap - (sLen + n))) (by rw [zeroCells_size, hzs]) (ubOf V e) (fun hub => by
          have hzu : zu = .int .u8 0 := ub_zero hz hub hzv
          subst hzu
          have hts : ti.size = 1 := hzs.symm
          exact ⟨hzr, by rw [hts, Nat.mul_one]; exact gb, fun j hj => zeroCells_get _ _ j (by rwa [zeroCells_size] at hj)⟩) h
      exact ⟨φ', _, _, g2, a1, a2, a3, (kept_drawn N w).trans a4, a5⟩
    · cases h

end
end Go.Proofs.Ytcpffiihdnecjaa.Ev
