/- The evaluator: an abstract memory keeps to its world through writes, new blocks, turned blocks. -/
import Derived.Test.YtcpffiihdnecjaaEv4
namespace Go.Proofs.Ytcpffiihdnecjaa.Ev
set_option linter.unusedSectionVars false
set_option linter.unusedSimpArgs false
set_option linter.unusedVariables false
open Go

theorem BlkRel.keep {P : Program} {φ ψ : Emb} {M M' : Mem} {w w' : World} {o : Blk} {l : Loc} (h : BlkRel P φ M w o l) (hle : φ.le ψ) (hw : w'.heap[l.blk]? = w.heap[l.blk]?)
    (hl : ∀ r, o = .row r → M'.live r = true → M.live r = true) : BlkRel P ψ M' w' o l := by
  cases o with
  | row r =>
    obtain ⟨c, fz, h1, h2, h3, h4, h5⟩ := h
    refine ⟨c, fz, hw.trans h1, h2, h3, h4, fun hlv => ?_⟩
    obtain ⟨s, a, b, d⟩ := h5 (hl r rfl hlv)
    exact ⟨s, a, b, fun i v hv => let ⟨e, u, hu, hr⟩ := d i v hv; ⟨e, u, hu, hr.mono hle⟩⟩
  | map es clock =>
    obtain ⟨fs, h1, h2⟩ := h
    exact ⟨fs, hw.trans h1, h2.mono hle⟩
  | mapIter => exact h.elim
  | loop a =>
    obtain ⟨L, h1, h2, h3, h4, h5, h6, h7, h8, d, h9, h10⟩ := h
    exact ⟨L, hw.trans h1, h2, h3, h4, h5.mono hle, h6, h7, h8, d, hle _ _ h9, h10⟩
  | deferred there => exact hw.trans h

/-- A row that is stale, over a block whose cells turn. -/
theorem RowRel.stale {P : Program} {φ ψ : Emb} {M M' : Mem} {w w' : World} {r : Row} {l : Loc} (h : RowRel P φ M w r l) (hs : M'.live r = false) {c : Array Value} {fz : Nat × Nat}
    {c0 : Array Value} {fz0 : Nat × Nat} {e0 : TypeId} (h0 : w.heap[l.blk]? = some (.cells c0 e0 fz0)) (hw : w'.heap[l.blk]? = some (.cells c e0 fz)) (hsz : c.size = c0.size) : RowRel P ψ M' w' r l := by
  obtain ⟨c1, fz1, h1, h2, h3, h4, _⟩ := h
  rw [h0] at h1
  cases h1
  exact ⟨c, fz, hw, by rw [hsz]; exact h2, h3, h4, fun hl => by rw [hs] at hl; cases hl⟩

theorem live_same {M M' : Mem} (h : M'.eps = M.eps) (r : Row) : M'.live r = M.live r := by unfold Mem.live; rw [h]

theorem stale_of {M : Mem} {r : Row} (h : r.cls ≠ 0) (he : M.eps.get r.cls ≠ some r.ep) : M.live r = false := by
  rw [← Bool.not_eq_true]
  intro hl
  rcases live_spec hl with h1 | h1
  · exact h h1
  · exact he h1

/-- A live row's block in another state; its siblings are stale. -/
theorem Rep.turnRow {P : Program} {G N : Nat} {φ : Emb} {M M' : Mem} {w w' : World} (R : Rep P G N φ M w) {b : Nat} {r r' : Row} {l : Loc} (hl : φ b = some l) (hr : M.row b = some r)
    (hn : M'.next = M.next) (he : M'.eps = M.eps) (hh : ∀ k, M'.heap.get k = if k = b then some (.row r') else M.heap.get k) (hc : r'.cls = r.cls) (hp : r'.ep = r.ep)
    {c c' : Array Value} {fz fz' : Nat × Nat} (h0 : w.heap[l.blk]? = some (.cells c r.elem fz)) (hu : Upd w w' l.blk (.cells c' r.elem fz')) (hsz : c'.size = c.size)
    (hrel : RowRel P φ M' w' r' l) : Rep P G N φ M' w' := by
  obtain ⟨hg, hlive⟩ := row_spec hr
  refine ⟨fun k q hq => ?_, fun k q hq => ?_, fun k k' q q' hq hq' hne hb => ?_, fun k q hq => ?_, fun k o ho => ?_, ?_, by rw [hn]; exact R.gn, R.ng, fun g o hg' ho => ?_⟩
  · obtain ⟨a1, a2, a3⟩ := R.dom k q hq; exact ⟨hn ▸ a1, by rw [hu.size]; exact a2, a3⟩
  · by_cases hk : k = b
    · subst hk
      rw [hl] at hq; cases hq
      exact ⟨.row r', by rw [hh, if_pos rfl], hrel⟩
    · obtain ⟨o, ho, hor⟩ := R.blk k q hq
      refine ⟨o, by rw [hh, if_neg hk]; exact ho, ?_⟩
      by_cases hb : q.blk = l.blk
      · obtain ⟨s, s', e1, e2, e3, e4, e5⟩ := R.apart k b q l hq hl hk hb
        rw [hg] at e2; cases e2
        rw [ho] at e1; cases e1
        have hst : M'.live s = false := by
          rw [live_same he]
          refine stale_of e4 (fun hx => ?_)
          rcases live_spec hlive with h1 | h1
          · exact e4 (e3.trans h1)
          · rw [e3, h1] at hx; exact e5 (Option.some.inj hx).symm
        have : RowRel P φ M w s q := hor
        exact RowRel.stale (l := q) this hst (by rw [hb]; exact h0) (by rw [hb]; exact hu.here) hsz
      · exact hor.keep φ.le_refl (hu.other _ hb) (fun s _ hs => by rwa [live_same he] at hs)
  · obtain ⟨s, s', e1, e2, e3, e4, e5⟩ := R.apart k k' q q' hq hq' hne hb
    have get : ∀ j t, M.heap.get j = some (.row t) → ∃ t', M'.heap.get j = some (.row t') ∧ t'.cls = t.cls ∧ t'.ep = t.ep := by
      intro j t ht
      by_cases hj : j = b
      · subst hj
        rw [hg] at ht; cases ht
        exact ⟨r', by rw [hh, if_pos rfl], hc, hp⟩
      · exact ⟨t, by rw [hh, if_neg hj]; exact ht, rfl, rfl⟩
    obtain ⟨t, t1, t2, t3⟩ := get _ _ e1
    obtain ⟨t', t1', t2', t3'⟩ := get _ _ e2
    exact ⟨t, t', t1, t1', by rw [t2, t2', e3], by rw [t2]; exact e4, by rw [t3, t3']; exact e5⟩
  · rw [hh] at hq
    by_cases hk : k = b
    · rw [if_pos hk] at hq; cases hq
      have := R.eps b r hg
      rw [hc, hp, hn, he]; exact this
    · rw [if_neg hk] at hq; rw [hn, he]; exact R.eps k q hq
  · rw [hh] at ho
    by_cases hk : k = b
    · subst hk; rw [hn]; exact R.top _ _ hg
    · rw [if_neg hk] at ho; rw [hn]; exact R.top _ _ ho
  · rw [hu.size]; exact R.heap
  · rw [hh] at ho
    by_cases hk : g = b
    · subst hk; exact R.glob _ _ hg' hg
    · rw [if_neg hk] at ho; exact R.glob _ _ hg' ho

theorem blt_false {a b : Nat} (h : Nat.blt a b = false) : b ≤ a := by
  rcases Nat.lt_or_ge a b with h1 | h1
  · have h2 : Nat.blt a b = true := by rw [Nat.blt_eq]; exact h1
    rw [h] at h2; cases h2
  · exact h1

theorem stores_rep {P : Program} {G N : Nat} {φ : Emb} {M M' : Mem} {w : World} (R : Rep P G N φ M w) {b i : Nat} {l : Loc} {vs : List AV} {us : List Value} (hl : φ b = some l)
    (h : M.stores G b i vs = some M') (hv : VsRel φ vs us) :
    ∃ w', (storeCells (l.addr i) us).run P w = .ok () w' ∧ Rep P G N φ M' w' ∧ Kept N w w' ∧ Unm φ M M' := by
  cases hv with
  | nil =>
    unfold Mem.stores at h
    cases h
    exact ⟨w, rfl, R, .refl _ _, .refl _ _⟩
  | cons x u vs us hx hvs =>
    have hvs' : VsRel φ (x :: vs) (u :: us) := .cons x u vs us hx hvs
    have h : M.stores1 G b i (x :: vs) = some M' := h
    unfold Mem.stores1 at h
    cases hG : Nat.blt b G
    · rw [hG, cond_false] at h
      cases hr : M.row b with
      | none => rw [hr] at h; cases h
      | some r =>
        rw [hr] at h
        have h : M.stores2 b i (x :: vs) r = some M' := h
        unfold Mem.stores2 at h
        obtain ⟨⟨c, fz, hw, hs, hes, hwh, hlv⟩, hlive⟩ := R.rowAt hr hl
        obtain ⟨hsp, hlen, hfz, hcell⟩ := hlv hlive
        obtain ⟨hg, _⟩ := row_spec hr
        cases hcond : (Nat.ble r.fr i && Nat.ble (i + (x :: vs).length) r.len && (x :: vs).all AV.one)
        · rw [hcond] at h; cases h
        · rw [hcond, cond_true] at h
          simp only [Bool.and_eq_true] at hcond
          obtain ⟨⟨c1, c2⟩, c3⟩ := hcond
          have c1 := Nat.le_of_ble_eq_true c1
          have c2 := Nat.le_of_ble_eq_true c2
          split at h
          · rename_i cells hcells
            split at h
            · rename_i heap hheap
              cases h
              have hlu : (u :: us).length = (x :: vs).length := hvs'.length.symm
              obtain ⟨w', hrun, hu⟩ := storeCells_run (P := P) (k := i) (o := l.off) (u :: us) 0 w c hw (by rw [hlu]; omega)
                (by omega) (hvs'.ones c3)
              refine ⟨w', hrun, ?_, hu.kept ((R.dom b l hl).2.2 (blt_false hG)), ⟨Nat.le_refl _, fun k _ hk => ?_⟩⟩
              · refine R.turnRow (r' := { r with cells }) hl hr rfl rfl (T.set_get _ _ _ _ hheap) rfl rfl hw hu (writeAt_size _ _ _) ?_
                refine ⟨_, fz, hu.here, by rw [writeAt_size]; exact hs, hes, hwh, fun _ => ⟨fun hub => ⟨(hsp hub).1, (hsp hub).2.1, fun j hj1 hj2 => by
                  have hj1 : r.len ≤ j := hj1
                  rw [writeAt_get (u :: us) c (l.off + i + 0) (by rw [hlu]; omega) (l.off + j), if_neg (by rw [hlu]; omega)]; exact (hsp hub).2.2 j hj1 hj2⟩, hlen, by rw [writeAt_size]; exact hfz, fun j v hj => ?_⟩⟩
                have hget := setsFrom_get hcells j
                simp only at hj
                rw [hget] at hj
                have hwr := writeAt_get (u :: us) c (l.off + i + 0) (by rw [hlu]; omega) (l.off + j)
                by_cases hin : i ≤ j ∧ j < i + (x :: vs).length
                · rw [if_pos hin] at hj
                  obtain ⟨u', hu', hvu⟩ := hvs'.get _ _ hj
                  refine ⟨show j < r.len by omega, u', ?_, hvu⟩
                  rw [hwr, if_pos (by rw [hlu]; omega), show l.off + j - (l.off + i + 0) = j - i by omega]
                  exact hu'
                · rw [if_neg hin] at hj
                  obtain ⟨hj1, u', hu', hvu⟩ := hcell j v hj
                  refine ⟨hj1, u', ?_, hvu⟩
                  rw [hwr, if_neg (by rw [hlu]; omega)]
                  exact hu'
              · show T.get heap k = _
                rw [T.set_get _ _ _ _ hheap, if_neg (fun e => by subst e; rw [hl] at hk; cases hk)]
            · cases h
          · cases h
    · rw [hG] at h; cases h

/-- The world with one block more. -/
noncomputable def wpush (w : World) (o : Obj) : World := { w with heap := w.heap.push o }

theorem wpush_get (w : World) (o : Obj) (k : Nat) : (wpush w o).heap[k]? = if k = w.heap.size then some o else w.heap[k]? := by
  show (w.heap.push o)[k]? = _
  rw [Array.getElem?_push]

theorem wpush_kept (w : World) (o : Obj) {N : Nat} (h : N ≤ w.heap.size) : Kept N w (wpush w o) :=
  ⟨rfl, rfl, rfl, by simp [wpush], fun k hk => by rw [wpush_get, if_neg (by omega)]⟩

theorem push_spec {M M' : Mem} {o : Blk} (h : M.push o = some M') : M'.next = M.next + 1 ∧ M'.eps = M.eps ∧ ∀ k, M'.heap.get k = if k = M.next then some o else M.heap.get k := by
  unfold Mem.push at h
  split at h
  · rename_i heap hh
    cases h
    exact ⟨rfl, rfl, T.set_get _ _ _ _ hh⟩
  · cases h

/-- Whether a block says nothing of siblings. -/
noncomputable def loneB : Blk → Prop
  | .row r => r.cls = 0
  | _ => True

/-- A block that is made in the abstract memory alone. -/
theorem Rep.absPush {P : Program} {G N : Nat} {φ : Emb} {M M' : Mem} {w : World} (R : Rep P G N φ M w) {o : Blk} (h : M.push o = some M') (ho : loneB o) : Rep P G N φ M' w := by
  obtain ⟨hn, he, hg⟩ := push_spec h
  have old : ∀ k, k < M.next → M'.heap.get k = M.heap.get k := fun k hk => by rw [hg, if_neg (by omega)]
  refine ⟨fun k q hq => ?_, fun k q hq => ?_, fun k k' q q' hq hq' hne hb => ?_, fun k q hq => ?_, fun k o' ho' => ?_, R.heap, by rw [hn]; have := R.gn; omega, R.ng, fun g o hg' ho => ?_⟩
  · obtain ⟨a1, a2, a3⟩ := R.dom k q hq; exact ⟨by omega, a2, a3⟩
  · obtain ⟨o', ho', hor⟩ := R.blk k q hq
    exact ⟨o', by rw [old _ (R.dom k q hq).1]; exact ho', hor.keep φ.le_refl rfl (fun s _ hs => by rwa [live_same he] at hs)⟩
  · obtain ⟨s, s', e1, e2, e3, e4, e5⟩ := R.apart k k' q q' hq hq' hne hb
    exact ⟨s, s', by rw [old _ (R.dom k q hq).1]; exact e1, by rw [old _ (R.dom k' q' hq').1]; exact e2, e3, e4, e5⟩
  · rw [hg] at hq
    by_cases hk : k = M.next
    · rw [if_pos hk] at hq; cases hq; exact .inl ho
    · rw [if_neg hk] at hq
      rcases R.eps k q hq with h1 | ⟨h1, e, h2, h3⟩
      · exact .inl h1
      · exact .inr ⟨by omega, e, by rw [he]; exact h2, h3⟩
  · rw [hg] at ho'
    by_cases hk : k = M.next
    · omega
    · rw [if_neg hk] at ho'; have := R.top _ _ ho'; omega
  · rw [old g (by have := R.gn; have := R.ng; omega)] at ho; exact R.glob _ _ hg' ho

theorem Rep.fresh {P : Program} {G N : Nat} {φ : Emb} {M : Mem} {w : World} (R : Rep P G N φ M w) {b : Nat} (h : M.next ≤ b) : φ b = none := by
  cases hb : φ b with
  | none => rfl
  | some l => have := (R.dom b l hb).1; omega

/-- A block of the abstract memory alone is made in the world. -/
theorem Rep.realize {P : Program} {G N : Nat} {φ : Emb} {M : Mem} {w : World} (R : Rep P G N φ M w) {b : Nat} {o : Blk} {obj : Obj} {l : Loc} (hn : φ b = none) (hb : M.heap.get b = some o)
    (hl : l.blk = w.heap.size) (hrel : BlkRel P (φ.with b l) M (wpush w obj) o l) : Rep P G N (φ.with b l) M (wpush w obj) ∧ Ext φ { M with next := b } (φ.with b l) ∧ φ.le (φ.with b l) ∧ Kept N w (wpush w obj) := by
  have hle := Emb.le_with l hn
  refine ⟨?_, ⟨hle, fun k hk e => ?_⟩, hle, wpush_kept w obj R.heap⟩
  · refine ⟨fun k q hq => ?_, fun k q hq => ?_, fun k k' q q' hq hq' hne hbb => ?_, R.eps, R.top, ?_, R.gn, R.ng, fun g o' hg' ho' => ?_⟩
    · by_cases hk : k = b
      · subst hk; rw [Emb.with_same] at hq; cases hq
        refine ⟨R.top _ _ hb, by rw [hl]; simp [wpush], fun _ => by rw [hl]; exact R.heap⟩
      · rw [Emb.with_other l hk] at hq
        obtain ⟨a1, a2, a3⟩ := R.dom k q hq
        exact ⟨a1, by simp [wpush]; omega, a3⟩
    · by_cases hk : k = b
      · subst hk; rw [Emb.with_same] at hq; cases hq
        exact ⟨o, hb, hrel⟩
      · rw [Emb.with_other l hk] at hq
        obtain ⟨o', ho', hor⟩ := R.blk k q hq
        exact ⟨o', ho', hor.keep hle (by rw [wpush_get, if_neg (by have := (R.dom k q hq).2.1; omega)]) (fun s _ hs => hs)⟩
    · by_cases hk : k = b
      · subst hk
        rw [Emb.with_same] at hq; cases hq
        rw [Emb.with_other l (fun e => hne e.symm)] at hq'
        have := (R.dom k' q' hq').2.1
        omega
      · rw [Emb.with_other l hk] at hq
        by_cases hk' : k' = b
        · subst hk'
          rw [Emb.with_same] at hq'; cases hq'
          have := (R.dom k q hq).2.1
          omega
        · rw [Emb.with_other l hk'] at hq'
          exact R.apart k k' q q' hq hq' hne hbb
    · have := R.heap
      show N ≤ (w.heap.push obj).size
      rw [Array.size_push]; omega
    · obtain ⟨q, hq, h1, h2⟩ := R.glob g o' hg' ho'
      exact ⟨q, hle _ _ hq, h1, h2⟩
  · have hk : k < b := hk
    rw [Emb.with_other l (by omega)]; exact e

/-- A block that is made in both. -/
theorem Rep.bothPush {P : Program} {G N : Nat} {φ : Emb} {M M' : Mem} {w : World} (R : Rep P G N φ M w) {o : Blk} {obj : Obj} {l : Loc} (h : M.push o = some M') (ho : loneB o)
    (hl : l.blk = w.heap.size) (hrel : BlkRel P (φ.with M.next l) M' (wpush w obj) o l) :
    Rep P G N (φ.with M.next l) M' (wpush w obj) ∧ Ext φ M (φ.with M.next l) ∧ Kept N w (wpush w obj) ∧ Unm φ M M' := by
  have R' := R.absPush h ho
  obtain ⟨hn, he, hg⟩ := push_spec h
  obtain ⟨r1, r2, r3, r4⟩ := R'.realize (R.fresh (Nat.le_refl _)) (by rw [hg, if_pos rfl]) hl hrel
  exact ⟨r1, ⟨r3, fun k hk e => r2.2 k hk e⟩, r4, ⟨by omega, fun k hk _ => by rw [hg, if_neg (by omega)]⟩⟩

/-- A block that is no row, in another state. -/
theorem Rep.turn {P : Program} {G N : Nat} {φ : Emb} {M M' : Mem} {w w' : World} (R : Rep P G N φ M w) {b : Nat} {o o' : Blk} {obj : Obj} {l : Loc} (hl : φ b = some l) (hb : M.heap.get b = some o)
    (hr : ∀ r, o ≠ .row r) (hr' : ∀ r, o' ≠ .row r) (h : M.put b o' = some M') (hu : Upd w w' l.blk obj) (hG : G ≤ b) (hrel : BlkRel P φ M' w' o' l) :
    Rep P G N φ M' w' ∧ Kept N w w' ∧ Unm φ M M' := by
  unfold Mem.put at h
  split at h
  · rename_i heap hh
    cases h
    have hg := T.set_get _ _ _ _ hh
    refine ⟨?_, hu.kept ((R.dom b l hl).2.2 hG), ⟨Nat.le_refl _, fun k _ hk => ?_⟩⟩
    · have alone : ∀ k q, φ k = some q → k ≠ b → q.blk ≠ l.blk := fun k q hq hk hbk => by
        obtain ⟨s, s', e1, e2, _⟩ := R.apart k b q l hq hl hk hbk
        rw [hb] at e2; cases e2; exact hr s' rfl
      refine ⟨fun k q hq => ?_, fun k q hq => ?_, fun k k' q q' hq hq' hne hbb => ?_, fun k q hq => ?_, fun k o1 ho => ?_, ?_, R.gn, R.ng, fun g o1 hg' ho => ?_⟩
      · obtain ⟨a1, a2, a3⟩ := R.dom k q hq; exact ⟨a1, by rw [hu.size]; exact a2, a3⟩
      · by_cases hk : k = b
        · subst hk; rw [hl] at hq; cases hq
          exact ⟨o', by rw [hg, if_pos rfl], hrel⟩
        · obtain ⟨o1, ho1, hor⟩ := R.blk k q hq
          exact ⟨o1, by rw [hg, if_neg hk]; exact ho1, hor.keep φ.le_refl (hu.other _ (alone k q hq hk)) (fun s _ hs => hs)⟩
      · obtain ⟨s, s', e1, e2, e3, e4, e5⟩ := R.apart k k' q q' hq hq' hne hbb
        have k1 : k ≠ b := fun e => by subst e; rw [hb] at e1; cases e1; exact hr s rfl
        have k2 : k' ≠ b := fun e => by subst e; rw [hb] at e2; cases e2; exact hr s' rfl
        exact ⟨s, s', by rw [hg, if_neg k1]; exact e1, by rw [hg, if_neg k2]; exact e2, e3, e4, e5⟩
      · rw [hg] at hq
        by_cases hk : k = b
        · rw [if_pos hk] at hq; cases hq; exact absurd rfl (hr' q)
        · rw [if_neg hk] at hq; exact R.eps k q hq
      · rw [hg] at ho
        by_cases hk : k = b
        · subst hk; exact R.top _ _ hb
        · rw [if_neg hk] at ho; exact R.top _ _ ho
      · rw [hu.size]; exact R.heap
      · rw [hg] at ho
        by_cases hk : g = b
        · subst hk; exact R.glob _ _ hg' hb
        · rw [if_neg hk] at ho; exact R.glob _ _ hg' ho
    · show T.get heap k = _
      rw [hg, if_neg (fun e => by subst e; rw [hl] at hk; cases hk)]
  · cases h

theorem rowOf_spec {e : TypeId} {wh : Bool} {cs : List AV} {r : Row} (h : rowOf e wh cs = some r) : r.len = cs.length ∧ r.cls = 0 ∧ r.fr = 0 ∧ r.elem = e ∧ r.whole = wh ∧
    cs.all AV.one = true ∧ (∀ i, r.cells.get i = cs[i]?) ∧ r.ub = false := by
  unfold rowOf at h
  cases ha : cs.all AV.one
  · rw [ha] at h; cases h
  · rw [ha, cond_true] at h
    split at h
    · rename_i cells hc
      cases h
      refine ⟨rfl, rfl, rfl, rfl, rfl, rfl, fun i => ?_, rfl⟩
      have := setsFrom_get hc i
      simp only [this]
      by_cases hi : i < cs.length
      · rw [if_pos (by omega)]; rfl
      · rw [if_neg (by omega), T.get_nil, List.getElem?_eq_none (by omega)]
    · cases h

/-- A row made of cells, and a block that begins with these. -/
theorem rowOf_relU {P : Program} {φ : Emb} {M : Mem} {w : World} {e : TypeId} {wh : Bool} {cs : List AV} {r : Row} (h : rowOf e wh cs = some r) {us rest : List Value} {c : Array Value} {l : Loc}
    (hv : VsRel φ cs us) (hw : w.heap[l.blk]? = some (.cells c e (0, 0))) (hc : c.toList = us ++ rest) (ho : l.off = 0) (hroom : l.room = c.size) (he : P.cellsOf e = l.esz)
    (hwh : wh = true → rest = []) (ub : Bool) (hub : ub = true → (∀ w, (zeroValue e).run P w = .ok (.int .u8 0) w) ∧ l.room < 9223372036854775808 ∧ ∀ j, j < rest.length → rest[j]? = some (.int .u8 0)) :
    RowRel P φ M w { r with ub } l := by
  obtain ⟨h1, h2, h3, h4, h5, _, h6, _⟩ := rowOf_spec h
  have hlen := hv.length
  have hsz : c.size = us.length + rest.length := by rw [← Array.length_toList, hc, List.length_append]
  refine ⟨c, (0, 0), by rw [h4]; exact hw, by rw [ho, hroom]; omega, by rw [h4]; exact he, fun hx => ⟨ho, ?_⟩, fun _ => ⟨fun hx => ⟨by show ∀ w, (zeroValue r.elem).run P w = _; rw [h4]; exact (hub hx).1, (hub hx).2.1, fun j hj1 hj2 => ?_⟩, by show r.len ≤ l.room; rw [h1, hroom]; omega, .inl rfl, fun i v hv' => ?_⟩⟩
  · have hx : r.whole = true := hx
    rw [h5] at hx
    have := hwh hx
    show l.room = r.len
    rw [hroom, h1, hsz, this, hlen]
    simp
  · have hj1 : r.len ≤ j := hj1
    rw [h1, hlen] at hj1
    rw [ho, Nat.zero_add, ← Array.getElem?_toList, hc, List.getElem?_append_right hj1]
    exact (hub hx).2.2 _ (by omega)
  · have hv' : r.cells.get i = some v := hv'
    rw [h6] at hv'
    obtain ⟨u, hu, hr⟩ := hv.get _ _ hv'
    have hi : i < us.length := by
      rcases Nat.lt_or_ge i us.length with h' | h'
      · exact h'
      · simp [List.getElem?_eq_none h'] at hu
    refine ⟨by show i < r.len; rw [h1]; omega, u, ?_, hr⟩
    rw [ho, Nat.zero_add, ← Array.getElem?_toList, hc, List.getElem?_append_left hi]
    exact hu

theorem rowOf_rel {P : Program} {φ : Emb} {M : Mem} {w : World} {e : TypeId} {wh : Bool} {cs : List AV} {r : Row} (h : rowOf e wh cs = some r) {us rest : List Value} {c : Array Value} {l : Loc}
    (hv : VsRel φ cs us) (hw : w.heap[l.blk]? = some (.cells c e (0, 0))) (hc : c.toList = us ++ rest) (ho : l.off = 0) (hroom : l.room = c.size) (he : P.cellsOf e = l.esz)
    (hwh : wh = true → rest = []) : RowRel P φ M w r l :=
  rowOf_relU h hv hw hc ho hroom he hwh r.ub (fun hx => by rw [(rowOf_spec h).2.2.2.2.2.2.2] at hx; cases hx)

end Go.Proofs.Ytcpffiihdnecjaa.Ev
