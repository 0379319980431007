/- The evaluator: a row that grows, in place or anew. -/
import Derived.Test.YtcpffiihdnecjaaEv18
namespace Go.Proofs.Ytcpffiihdnecjaa.Ev
set_option linter.unusedSectionVars false
set_option linter.unusedSimpArgs false
set_option linter.unusedVariables false
open Go

/-- A row's next, on the same cells or on new ones; the row itself goes stale. -/
theorem Rep.sib {P : Program} {G N : Nat} {φ : Emb} {M M' : Mem} {w w' : World} (R : Rep P G N φ M w) {b : Nat} {r rn : Row} {l l' : Loc} {cls ep : Nat} (hl : φ b = some l) (hr : M.row b = some r) (hG : G ≤ b)
    (hc : (r.cls = 0 ∧ cls = M.next ∧ ep = 0) ∨ (r.cls ≠ 0 ∧ cls = r.cls ∧ ep = r.ep)) (hn : M'.next = M.next + 1) (he : ∀ k, M'.eps.get k = if k = cls then some (ep + 1) else M.eps.get k)
    (hh : ∀ k, M'.heap.get k = if k = M.next then some (.row rn) else if k = b then some (.row { r with cls, ep }) else M.heap.get k) (hrc : rn.cls = cls) (hre : rn.ep = ep + 1)
    (hsz : w.heap.size ≤ w'.heap.size) (hl1 : l'.blk < w'.heap.size) (hl2 : N ≤ l'.blk) (hl3 : l'.blk = l.blk ∨ w.heap.size ≤ l'.blk)
    (hother : ∀ k, k < w.heap.size → k ≠ l.blk → w'.heap[k]? = w.heap[k]?)
    {c c' : Array Value} {fz fz' : Nat × Nat} (hw : w.heap[l.blk]? = some (.cells c r.elem fz)) (hw' : w'.heap[l.blk]? = some (.cells c' r.elem fz')) (hcs : c'.size = c.size)
    (hrel : RowRel P (φ.with M.next l') M' w' rn l') : Rep P G N (φ.with M.next l') M' w' ∧ Ext φ M (φ.with M.next l') ∧ Unm φ M M' := by
  obtain ⟨hg, hlive⟩ := row_spec hr
  have hbn := (R.dom b l hl).1
  have hfr : φ M.next = none := R.fresh (Nat.le_refl _)
  have hle := Emb.le_with l' hfr
  have hcn : cls ≠ 0 := by
    rcases hc with ⟨_, h, _⟩ | ⟨h1, h, _⟩
    · omega
    · rw [h]; exact h1
  have hlv : r.cls = 0 ∨ M.eps.get r.cls = some r.ep := live_spec hlive
  have hclt : cls < M.next + 1 := by
    rcases hc with ⟨_, h, _⟩ | ⟨h1, h, _⟩
    · omega
    · rcases R.eps b r hg with h2 | ⟨h2, _⟩
      · exact absurd h2 h1
      · omega
  -- an old row of this class is no younger
  have hyoung : ∀ k s, M.heap.get k = some (.row s) → s.cls = cls → s.ep ≤ ep := by
    intro k s hs hsc
    rcases hc with ⟨h0, h1, h2⟩ | ⟨h0, h1, h2⟩
    · rcases R.eps k s hs with h3 | ⟨h3, _⟩
      · omega
      · omega
    · rcases R.eps k s hs with h3 | ⟨h3, e, h4, h5⟩
      · omega
      · rcases hlv with h6 | h6
        · exact absurd h6 h0
        · rw [hsc, h1, h6] at h4; cases h4; omega
  have hdead : ∀ s : Row, s.cls = cls → s.ep ≤ ep → M'.live s = false := by
    intro s h1 h2
    refine stale_of (by rw [h1]; exact hcn) ?_
    rw [h1, he, if_pos rfl]
    intro e
    have := Option.some.inj e
    omega
  have hkeep : ∀ k s, M.heap.get k = some (.row s) → M'.live s = true → M.live s = true := by
    intro k s hs hl'
    by_cases h1 : s.cls = cls
    · rw [hdead s h1 (hyoung k s hs h1)] at hl'; cases hl'
    · rcases live_spec hl' with h2 | h2
      · exact live_of (.inl h2)
      · rw [he, if_neg h1] at h2; exact live_of (.inr h2)
  -- where the old ones lie, and what they are
  have old : ∀ k, k < M.next → k ≠ b → M'.heap.get k = M.heap.get k := fun k hk hkb => by rw [hh, if_neg (by omega), if_neg hkb]
  have hb' : M'.heap.get b = some (.row { r with cls, ep }) := by rw [hh, if_neg (by omega), if_pos rfl]
  have sibl : ∀ k q, φ k = some q → k ≠ b → q.blk = l.blk → ∃ s, M.heap.get k = some (.row s) ∧ s.cls = cls ∧ s.ep ≠ r.ep ∧ r.cls ≠ 0 := by
    intro k q hq hk hb
    obtain ⟨s, s', e1, e2, e3, e4, e5⟩ := R.apart k b q l hq hl hk hb
    rw [hg] at e2; cases e2
    rcases hc with ⟨h0, _⟩ | ⟨h0, h1, _⟩
    · rw [h0] at e3; exact absurd e3 e4
    · exact ⟨s, e1, by rw [h1]; exact e3, e5, h0⟩
  refine ⟨⟨fun k q hq => ?_, fun k q hq => ?_, fun k k' q q' hq hq' hne hbb => ?_, fun k q hq => ?_, fun k o ho => ?_, Nat.le_trans R.heap hsz, by rw [hn]; have := R.gn; omega, R.ng, fun g o hg' ho => ?_⟩,
    ⟨hle, fun k hk e => by rw [Emb.with_other _ (by omega)]; exact e⟩, ⟨by omega, fun k hk hk' => old k hk (fun e => by subst e; rw [hl] at hk'; cases hk')⟩⟩
  · by_cases hk : k = M.next
    · subst hk; rw [Emb.with_same] at hq; cases hq
      exact ⟨by omega, hl1, fun _ => hl2⟩
    · rw [Emb.with_other _ hk] at hq
      obtain ⟨a1, a2, a3⟩ := R.dom k q hq
      exact ⟨by omega, by omega, a3⟩
  · by_cases hk : k = M.next
    · subst hk; rw [Emb.with_same] at hq; cases hq
      exact ⟨.row rn, by rw [hh, if_pos rfl], hrel⟩
    · rw [Emb.with_other _ hk] at hq
      obtain ⟨a1, a2, a3⟩ := R.dom k q hq
      by_cases hkb : k = b
      · subst hkb
        rw [hl] at hq; cases hq
        obtain ⟨o, ho, hor⟩ := R.blk k l hl
        rw [hg] at ho; cases ho
        refine ⟨_, hb', ?_⟩
        have hor : RowRel P φ M w r l := hor
        obtain ⟨c1, fz1, h1, h2, h3, h4, _⟩ := hor
        rw [hw] at h1
        cases h1
        exact ⟨c', fz', hw', by rw [hcs]; exact h2, h3, h4, fun hx => by rw [hdead _ rfl (Nat.le_refl _)] at hx; cases hx⟩
      · obtain ⟨o, ho, hor⟩ := R.blk k q hq
        refine ⟨o, by rw [old k a1 hkb]; exact ho, ?_⟩
        by_cases hb : q.blk = l.blk
        · obtain ⟨s, e1, e2, _⟩ := sibl k q hq hkb hb
          rw [ho] at e1; cases e1
          have hor : RowRel P φ M w s q := hor
          exact RowRel.stale (l := q) hor (hdead s e2 (hyoung k s ho e2)) (by rw [hb]; exact hw) (by rw [hb]; exact hw') hcs
        · exact hor.keep hle (hother _ a2 hb) (fun s e hs => hkeep k s (by rw [ho, e]) hs)
  · -- siblings
    have get : ∀ j t, j ≠ b → j ≠ M.next → M.heap.get j = some (.row t) → M'.heap.get j = some (.row t) := fun j t h1 h2 h3 => by rw [hh, if_neg h2, if_neg h1]; exact h3
    have new1 : ∀ k q, φ k = some q → k ≠ M.next → q.blk = l'.blk → ∃ s, M'.heap.get k = some (.row s) ∧ s.cls = cls ∧ s.ep ≠ ep + 1 := by
      intro k q hq hk hbb
      by_cases hkb : k = b
      · subst hkb; exact ⟨_, hb', rfl, by simp⟩
      · have : q.blk = l.blk := by
          rcases hl3 with h | h
          · rw [hbb, h]
          · have := (R.dom k q hq).2.1; omega
        obtain ⟨s, e1, e2, e3, _⟩ := sibl k q hq hkb this
        exact ⟨s, get k s hkb hk e1, e2, by have := hyoung k s e1 e2; omega⟩
    have hnew : M'.heap.get M.next = some (.row rn) := by rw [hh, if_pos rfl]
    by_cases hk : k = M.next
    · subst hk; rw [Emb.with_same] at hq; cases hq
      rw [Emb.with_other _ (fun e => hne e.symm)] at hq'
      obtain ⟨s, e1, e2, e3⟩ := new1 k' q' hq' (fun e => hne e.symm) hbb.symm
      exact ⟨rn, s, hnew, e1, by rw [hrc, e2], by rw [hrc]; exact hcn, by rw [hre]; exact fun e => e3 e.symm⟩
    · rw [Emb.with_other _ hk] at hq
      by_cases hk' : k' = M.next
      · subst hk'; rw [Emb.with_same] at hq'; cases hq'
        obtain ⟨s, e1, e2, e3⟩ := new1 k q hq hk hbb
        exact ⟨s, rn, e1, hnew, by rw [hrc, e2], by rw [e2]; exact hcn, by rw [hre]; exact e3⟩
      · rw [Emb.with_other _ hk'] at hq'
        obtain ⟨s, s', e1, e2, e3, e4, e5⟩ := R.apart k k' q q' hq hq' hne hbb
        have turn : ∀ j t, j ≠ M.next → M.heap.get j = some (.row t) → t.cls ≠ 0 → ∃ t', M'.heap.get j = some (.row t') ∧ t'.cls = t.cls ∧ t'.ep = t.ep := by
          intro j t hj ht htc
          by_cases hjb : j = b
          · subst hjb
            rw [hg] at ht; cases ht
            rcases hc with ⟨h0, _⟩ | ⟨_, h1, h2⟩
            · exact absurd h0 htc
            · exact ⟨_, hb', h1, h2⟩
          · exact ⟨t, get j t hjb hj ht, rfl, rfl⟩
        obtain ⟨t, t1, t2, t3⟩ := turn k s hk e1 e4
        obtain ⟨t', t1', t2', t3'⟩ := turn k' s' hk' e2 (by rw [← e3]; exact e4)
        exact ⟨t, t', t1, t1', by rw [t2, t2', e3], by rw [t2]; exact e4, by rw [t3, t3']; exact e5⟩
  · rw [hh] at hq
    by_cases hk : k = M.next
    · rw [if_pos hk] at hq; cases hq
      exact .inr ⟨by rw [hrc, hn]; omega, ep + 1, by rw [hrc, he, if_pos rfl], by rw [hre]; exact Nat.le_refl _⟩
    · rw [if_neg hk] at hq
      by_cases hkb : k = b
      · rw [if_pos hkb] at hq; cases hq
        exact .inr ⟨by show cls < _; rw [hn]; omega, ep + 1, by show M'.eps.get cls = _; rw [he, if_pos rfl], Nat.le_succ _⟩
      · rw [if_neg hkb] at hq
        by_cases hqc : q.cls = cls
        · have := hyoung k q hq hqc
          exact .inr ⟨by rw [hqc, hn]; omega, ep + 1, by rw [hqc, he, if_pos rfl], by omega⟩
        · rcases R.eps k q hq with h1 | ⟨h1, e, h2, h3⟩
          · exact .inl h1
          · exact .inr ⟨by omega, e, by rw [he, if_neg hqc]; exact h2, h3⟩
  · rw [hh] at ho
    by_cases hk : k = M.next
    · omega
    · rw [if_neg hk] at ho
      by_cases hkb : k = b
      · omega
      · rw [if_neg hkb] at ho; have := R.top _ _ ho; omega
  · have hgG := R.ng
    have hgn := R.gn
    rw [hh, if_neg (by omega), if_neg (by omega)] at ho
    obtain ⟨q, hq, h1, h2⟩ := R.glob g o hg' ho
    exact ⟨q, hle _ _ hq, h1, h2⟩

end Go.Proofs.Ytcpffiihdnecjaa.Ev
