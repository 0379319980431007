/- The evaluator: maps, assertions. -/
import Derived.Test.YtcpffiihdnecjaaEv15
namespace Go.Proofs.Ytcpffiihdnecjaa.Ev
set_option linter.unusedSectionVars false
set_option linter.unusedSimpArgs false
set_option linter.unusedVariables false
open Go

theorem run_getMap {P : Program} {w : World} {r : Nat} {es : Array MapEntry} {c : Nat} (h : w.heap[r]? = some (.map es c)) : (getObj r).run P w = .ok (.map es c) w := by
  unfold getObj
  simp only [Sem.run, h]

noncomputable def wput (w : World) (r : Nat) (o : Obj) : World := { w with heap := w.heap.setIfInBounds r o }

theorem run_setMap {P : Program} {w : World} {r : Nat} {es : Array MapEntry} {c : Nat} {o' : Obj} (h : w.heap[r]? = some (.map es c)) : (setObj r o').run P w = .ok () (wput w r o') := by
  unfold setObj
  simp only [Sem.run, h]
  rfl

theorem wput_upd {w : World} {r : Nat} {o o' : Obj} (h : w.heap[r]? = some o) : Upd w (wput w r o') r o' := by
  have hlt : r < w.heap.size := (Array.getElem?_eq_some_iff.1 h).1
  refine ⟨rfl, rfl, rfl, by simp [wput], fun k hk => ?_, ?_⟩
  · show (w.heap.setIfInBounds r o')[k]? = _
    rw [Array.getElem?_setIfInBounds, if_neg (fun e => hk e.symm)]
  · show (w.heap.setIfInBounds r o')[r]? = _
    rw [Array.getElem?_setIfInBounds, if_pos rfl, if_pos hlt]

theorem ba_beq (s t : ByteArray) : (s == t) = true ↔ s = t := by
  obtain ⟨a⟩ := s
  obtain ⟨b⟩ := t
  have : ((⟨a⟩ : ByteArray) == ⟨b⟩) = (a == b) := rfl
  rw [this, beq_iff_eq]
  exact ⟨fun h => by rw [h], fun h => by cases h; rfl⟩

theorem str_inj {s t : ByteArray} (h1 : s.size = t.size) (h2 : packL s.data.toList = packL t.data.toList) : s = t := by
  have := packL_inj s.data.toList t.data.toList (by simp; exact h1) h2
  obtain ⟨⟨s⟩⟩ := s
  obtain ⟨⟨t⟩⟩ := t
  simp only at this
  rw [this]

theorem sameKey_now {φ : Emb} {d : TypeDesc} {k k' : AV} {u u' : Value} {b : Bool} (hk : VRel φ k u) (hk' : VRel φ k' u') (h : sameKey d k k' = some b) :
    Instr.sameNow d u u' = some b ∧ (b = true → u = u' ∧ ∀ n, Instr.sameBits n u u = true) := by
  unfold sameKey at h
  split at h
  · split at h
    · cases hk
      cases hk'
      split at h
      · rename_i hab
        subst hab
        cases h
        refine ⟨?_, fun hb => ?_⟩
        · unfold Instr.sameNow
          simp only [if_true]
          rfl
        have := of_decide_eq_true hb
        subst this
        exact ⟨rfl, fun n => by unfold Instr.sameBits; simp⟩
      · cases h
    · cases h
  · split at h
    · cases hk with
      | str s =>
        cases hk' with
        | str t =>
          cases h
          have e : (bif Nat.beq s.size t.size then Nat.beq (packL s.data.toList) (packL t.data.toList) else false) = (s == t) := by
            rw [Bool.eq_iff_iff]
            constructor
            · intro h
              cases hs : Nat.beq s.size t.size
              · rw [hs] at h; cases h
              · rw [hs, cond_true] at h
                have := str_inj (Nat.eq_of_beq_eq_true hs) (Nat.eq_of_beq_eq_true h)
                exact (ba_beq s t).2 this
            · intro h
              have : s = t := (ba_beq s t).1 h
              subst this
              simp
          rw [e]
          refine ⟨rfl, fun hb => ?_⟩
          have : s = t := (ba_beq s t).1 hb
          subst this
          exact ⟨rfl, fun n => by unfold Instr.sameBits; exact (ba_beq s s).2 rfl⟩
    · cases h
  · split at h
    · cases hk
      cases hk'
      cases h
      refine ⟨rfl, fun hb => ?_⟩
      have := eq_of_beq hb
      subst this
      exact ⟨rfl, fun n => by unfold Instr.sameBits; simp⟩
    · cases h
  · cases h

theorem keyIdx_now {φ : Emb} {d : TypeDesc} {k : AV} {u : Value} (hk : VRel φ k u) : ∀ {es : List (AV × AV × Nat)} {fs : List MapEntry} {i : Nat} {r : Option (Nat × AV)}, EsRel φ es fs → keyIdx d k es i = some r →
    (r = none ∧ Instr.findNow d u fs i = some none) ∨
    ∃ j v q e, r = some (i + j, v) ∧ Instr.findNow d u fs i = some (some (i + j, q)) ∧ VRel φ v q ∧ fs[j]? = some e ∧ e.key = u ∧ ∀ n, Instr.sameBits n u u = true
  | _, _, i, r, .nil, h => by cases h; exact .inl ⟨rfl, rfl⟩
  | _, _, i, r, .cons k' v' n e es fs h1 h2 h3 h4, h => by
    unfold keyIdx at h
    split at h
    · rename_i hs
      cases h
      obtain ⟨s1, s2⟩ := sameKey_now hk h1 hs
      obtain ⟨s2, s3⟩ := s2 rfl
      exact .inr ⟨0, v', e.val, e, rfl, by simp only [Instr.findNow, s1, Nat.add_zero], h2, rfl, s2.symm, s3⟩
    · rename_i hs
      obtain ⟨s1, _⟩ := sameKey_now hk h1 hs
      rcases keyIdx_now hk h4 h with ⟨r1, r2⟩ | ⟨j, v, q, e', r1, r2, r3, r4, r5, r6⟩
      · exact .inl ⟨r1, by simp only [Instr.findNow, s1, r2]⟩
      · exact .inr ⟨j + 1, v, q, e', by rw [r1]; congr 2; omega, by simp only [Instr.findNow, s1, r2]; congr 3; omega, r3, by simpa using r4, r5, r6⟩
    · cases h

theorem keyD_inv {V : Env} {kt : TypeId} {d : TypeDesc} (h : keyD V kt = some d) : V.E.und kt = some d ∧ plainD d = true := by
  unfold keyD at h
  split at h
  · rename_i d' hd
    cases hp : plainD d'
    · rw [hp] at h; cases h
    · rw [hp, cond_true] at h
      cases h
      exact ⟨hd, hp⟩
  · cases h

theorem checkKey_plain {P : Program} {w : World} {kt : TypeId} {d : TypeDesc} (h : P.underlying kt = some d) (hp : plainD d = true) (e : Bool) (n : Nat) (u : Value) : (Instr.checkKey e (n + 1) kt u).run P w = .ok () w := by
  unfold Instr.checkKey
  simp only [Sem.run_bind, run_underlying h, Result.andThen_ok]
  cases d <;> first | rfl | cases hp

theorem modifyL_rel {φ : Emb} {k v : AV} {u q : Value} (hk : VRel φ k u) (hv : VRel φ v q) : ∀ {es : List (AV × AV × Nat)} {fs : List MapEntry}, EsRel φ es fs → ∀ i,
    EsRel φ (modifyL i (fun e => (k, v, e.2.2)) es) (fs.modify i fun e => { e with key := u, val := q })
  | _, _, .nil, i => by cases i <;> exact .nil
  | _, _, .cons k' v' n e es fs h1 h2 h3 h4, 0 => .cons _ _ _ _ _ _ hk hv h3 h4
  | _, _, .cons k' v' n e es fs h1 h2 h3 h4, i + 1 => .cons _ _ _ _ _ _ h1 h2 h3 (modifyL_rel hk hv h4 i)

theorem EsRel.push {φ : Emb} {k v : AV} {u q : Value} {n : Nat} (hk : VRel φ k u) (hv : VRel φ v q) : ∀ {es : List (AV × AV × Nat)} {fs : List MapEntry}, EsRel φ es fs →
    EsRel φ (es ++ [(k, v, n)]) (fs ++ [{ key := u, val := q, born := n }])
  | _, _, .nil => .cons _ _ _ _ _ _ hk hv rfl .nil
  | _, _, .cons k' v' n e es fs h1 h2 h3 h4 => .cons _ _ _ _ _ _ h1 h2 h3 (EsRel.push hk hv h4)

theorem EsRel.length {φ : Emb} : ∀ {es : List (AV × AV × Nat)} {fs : List MapEntry}, EsRel φ es fs → es.length = fs.length
  | _, _, .nil => rfl
  | _, _, .cons _ _ _ _ _ _ _ _ _ h => by simp [EsRel.length h]

section
variable {V : Env} (hV : EnvOk V) {N : Nat} {φ : Emb} {M : Mem} {w : World} (R : Rep V.P V.G N φ M w) {tm : T AV} {ρ : Operand → Value} (ho : OpRel φ tm ρ)
include hV R

theorem putG_ok {b : Nat} {o o' : Blk} {obj obj' : Obj} {l : Loc} {M' : Mem} (hl : φ b = some l) (hb : M.heap.get b = some o) (hr : ∀ r, o ≠ .row r) (hr' : ∀ r, o' ≠ .row r) (hw : w.heap[l.blk]? = some obj)
    (h : putG V M b o' = some M') (hrel : BlkRel V.P φ M' (wput w l.blk obj') o' l) : Rep V.P V.G N φ M' (wput w l.blk obj') ∧ Kept N w (wput w l.blk obj') ∧ Unm φ M M' := by
  unfold putG at h
  cases hG : Nat.blt b V.G
  · rw [hG, cond_false] at h
    have hG' : V.G ≤ b := by
      rcases Nat.lt_or_ge b V.G with h' | h'
      · rw [← Nat.blt_eq] at h'; rw [h'] at hG; cases hG
      · exact h'
    exact R.turn hl hb hr hr' h (wput_upd hw) hG' hrel
  · rw [hG] at h; cases h

theorem mapSetA_ok {t : TypeId} {m k v : AV} {mu ku vu : Value} {M' : Mem} (hm : VRel φ m mu) (hk : VRel φ k ku) (hv : VRel φ v vu) (h : mapSetA V M t m k v = some M') :
    ∃ w', (Instr.mapUpdate t mu ku vu).run V.P w = .ok () w' ∧ Rep V.P V.G N φ M' w' ∧ Kept N w w' ∧ Unm φ M M' := by
  unfold mapSetA at h
  split at h
  · rename_i b
    cases hm with
    | map _ l hl =>
    split at h
    · rename_i kt et hu
      split at h
      · rename_i d hd
        obtain ⟨hd, hp⟩ := keyD_inv hd
        split at h
        · rename_i es clock hb
          obtain ⟨o, hob, hor⟩ := R.blk b l hl
          rw [hb] at hob
          cases hob
          obtain ⟨fs, hw, hes⟩ := hor
          have hfind : ∀ r, Instr.findNow d ku fs.toList 0 = some r → (Instr.findKey kt ku fs.toList).run V.P w = .ok r w := fun r hr => by
            simp only [Instr.findKey, Sem.run_bind, run_underlying (und_of hV hd), Result.andThen_ok, hr]
            rfl
          have go : ∀ r w', Instr.findNow d ku fs.toList 0 = some r →
              ((match r with
                | some (i, _) => do
                  let key ← Instr.keyThatStays (((fs[i]?).map (·.key)).getD ku) ku
                  setObj l.blk (.map (fs.modify i fun e => { e with key, val := vu }) clock)
                | none => setObj l.blk (.map (fs.push { key := ku, val := vu, born := clock }) (clock + 1)) : Sem Unit)).run V.P w = .ok () w' →
              (Instr.mapUpdate t (.map (some l.blk)) ku vu).run V.P w = .ok () w' := fun r w' hr hx => by
            simp only [Instr.mapUpdate, Sem.run_bind, run_underlying (und_of hV hu), Result.andThen_ok, run_getMap hw, checkKey_plain (w := w) (und_of hV hd) hp, hfind r hr]
            exact hx
          unfold mapSet1 at h
          split at h
          · rename_i i v' hx
            rcases keyIdx_now hk hes hx with ⟨r1, _⟩ | ⟨j, v'', q, e, r1, r2, r3, r4, r5, r6⟩
            · cases r1
            · rw [Nat.zero_add] at r1 r2
              cases r1
              have hrel : BlkRel V.P φ M' (wput w l.blk (.map (fs.modify i fun e => { e with key := ku, val := vu }) clock)) (.map (modifyL i (fun e => (k, v, e.2.2)) es) clock) l :=
                ⟨_, (wput_upd hw).here, by rw [Array.toList_modify]; exact modifyL_rel hk hv hes i⟩
              obtain ⟨q1, q2, q3⟩ := putG_ok hV R hl hb (fun _ e => by cases e) (fun _ e => by cases e) hw h hrel
              refine ⟨_, go _ _ r2 ?_, q1, q2, q3⟩
              have hfi : fs[i]? = some e := by rw [← Array.getElem?_toList]; exact r4
              have hst : (Instr.keyThatStays (((fs[i]?).map (·.key)).getD ku) ku).run V.P w = .ok ku w := by
                rw [hfi]
                simp only [Option.map_some, Option.getD_some, r5, Instr.keyThatStays, r6, if_true]
                rfl
              simp only [Sem.run_bind, hst, Result.andThen_ok, run_setMap hw]
          · rename_i hx
            rcases keyIdx_now hk hes hx with ⟨_, r2⟩ | ⟨j, v'', q, e, r1, _⟩
            · have hrel : BlkRel V.P φ M' (wput w l.blk (.map (fs.push { key := ku, val := vu, born := clock }) (clock + 1))) (.map (es ++ [(k, v, clock)]) (clock + 1)) l :=
                ⟨_, (wput_upd hw).here, by rw [Array.toList_push]; exact hes.push hk hv⟩
              obtain ⟨q1, q2, q3⟩ := putG_ok hV R hl hb (fun _ e => by cases e) (fun _ e => by cases e) hw h hrel
              exact ⟨_, go _ _ r2 (run_setMap hw), q1, q2, q3⟩
            · cases r1
          · cases h
        · cases h
      · cases h
    · cases h
  · cases h

theorem lookMap_ok {d : TypeDesc} {m k : AV} {mu ku : Value} {r : Option (Nat × AV)} (hm : VRel φ m mu) (hk : VRel φ k ku) (h : lookMap d M m k = some r) :
    ∃ fs : Array MapEntry, ((mu = .map none ∧ fs = #[]) ∨ ∃ r c, mu = .map (some r) ∧ w.heap[r]? = some (.map fs c)) ∧
    ((r = none ∧ Instr.findNow d ku fs.toList 0 = some none) ∨ ∃ j v q, r = some (j, v) ∧ Instr.findNow d ku fs.toList 0 = some (some (j, q)) ∧ VRel φ v q) := by
  unfold lookMap at h
  split at h
  · cases hm
    cases h
    exact ⟨#[], .inl ⟨rfl, rfl⟩, .inl ⟨rfl, rfl⟩⟩
  · rename_i b
    cases hm with
    | map _ l hl =>
    split at h
    · rename_i es clock hb
      obtain ⟨o, hob, hor⟩ := R.blk b l hl
      rw [hb] at hob
      cases hob
      obtain ⟨fs, hw, hes⟩ := hor
      refine ⟨fs, .inr ⟨_, _, rfl, hw⟩, ?_⟩
      · rcases keyIdx_now hk hes h with ⟨r1, r2⟩ | ⟨j, v, q, e, r1, r2, r3, _⟩
        · exact .inl ⟨r1, r2⟩
        · rw [Nat.zero_add] at r1 r2
          exact .inr ⟨j, v, q, r1, r2, r3⟩
    · cases h
  · cases h

include ho

theorem oMapUpdate_ok {t : TypeId} {m k x : Operand} {v : AV} {M' : Mem} (h : oMapUpdate V tm M t m k x = .val v M') :
    Came V.P V.G N φ M w (do Instr.mapUpdate t (ρ m) (ρ k) (ρ x); pure .skip) v M' := by
  unfold oMapUpdate at h
  split at h
  · rename_i ma hm
    split at h
    · rename_i ka va h2
      obtain ⟨x1, y1, e1, hk, hv⟩ := two2_list h2
      cases e1
      obtain ⟨rfl, hs⟩ := rMem_inv h
      obtain ⟨w', h1, h2, h3, h4⟩ := mapSetA_ok hV R (ho _ _ hm) (ho _ _ hk) (ho _ _ hv) hs
      exact ⟨φ, undef, w', .skip, by simp only [Sem.run_bind, h1, Result.andThen_ok]; rfl, .inr ⟨rfl, rfl⟩, undef_rel φ, h2, .refl _ _, h3, h4⟩
    · cases h
  · cases h

theorem oLookup_ok {t : TypeId} {x k : Operand} {ok : Bool} {v : AV} {M' : Mem} (h : oLookup V tm M t x k ok = .val v M') :
    Came V.P V.G N φ M w (Instr.lookup t (ρ x) (ρ k) ok >>= fun x => (pure (Next.value x) : Sem Next)) v M' := by
  unfold oLookup at h
  split at h
  · rename_i kt et hu
    split at h
    · rename_i ma ka h2
      obtain ⟨x1, y1, e1, hm, hk⟩ := two2_list h2
      cases e1
      split at h
      · rename_i d hd
        obtain ⟨hd, hp⟩ := keyD_inv hd
        split at h
        · rename_i z hz
          obtain ⟨zu, hz1, hz2⟩ := zero_ok hV hz w
          cases hl : lookMap d M ma ka with
          | none => rw [hl] at h; cases h
          | some r =>
            rw [hl] at h
            obtain ⟨fs, hf, hr⟩ := lookMap_ok hV R (ho _ _ hm) (ho _ _ hk) hl
            have hfind : ∀ r, Instr.findNow d (ρ k) fs.toList 0 = some r → (Instr.findKey kt (ρ k) fs.toList).run V.P w = .ok r w := fun r hr => by
              simp only [Instr.findKey, Sem.run_bind, run_underlying (und_of hV hd), Result.andThen_ok, hr]
              rfl
            rcases hr with ⟨rfl, hn⟩ | ⟨j, q, qu, rfl, hn, hq⟩
            · cases h
              refine .stayV R (u := if ok then .tuple #[zu, .bool false] else zu) ?_ ?_
              · rcases hf with ⟨hmu, rfl⟩ | ⟨r, c, hmu, hw⟩
                · simp only [hmu, Instr.lookup, Sem.run_bind, run_underlying (und_of hV hu), Result.andThen_ok, Sem.run_pure, checkKey_plain (w := w) (und_of hV hd) hp, hfind _ hn, hz1]
                · simp only [hmu, Instr.lookup, Sem.run_bind, run_underlying (und_of hV hu), Result.andThen_ok, run_getMap hw, Sem.run_pure, checkKey_plain (w := w) (und_of hV hd) hp, hfind _ hn, hz1]
              · cases ok
                · exact hz2 φ
                · exact .tuple _ _ (.cons _ _ _ _ (hz2 φ) (.cons _ _ _ _ (.bool _) .nil))
            · cases h
              refine .stayV R (u := if ok then .tuple #[qu, .bool true] else qu) ?_ ?_
              · rcases hf with ⟨hmu, rfl⟩ | ⟨r, c, hmu, hw⟩
                · simp only [hmu, Instr.lookup, Sem.run_bind, run_underlying (und_of hV hu), Result.andThen_ok, Sem.run_pure, checkKey_plain (w := w) (und_of hV hd) hp, hfind _ hn]
                · simp only [hmu, Instr.lookup, Sem.run_bind, run_underlying (und_of hV hu), Result.andThen_ok, run_getMap hw, Sem.run_pure, checkKey_plain (w := w) (und_of hV hd) hp, hfind _ hn]
              · cases ok
                · exact hq
                · exact .tuple _ _ (.cons _ _ _ _ hq (.cons _ _ _ _ (.bool _) .nil))
        · cases h
      · cases h
    · cases h
  · cases h

omit ho in
theorem oMakeMap_ok {t : TypeId} {r : Option Operand} {v : AV} {M' : Mem} (h : oMakeMap V M t r = .val v M') :
    Came V.P V.G N φ M w (Instr.makeMap t (r.map ρ) >>= fun x => (pure (Next.value x) : Sem Next)) v M' := by
  unfold oMakeMap at h
  split at h
  · obtain ⟨rfl, hp⟩ := rMem_inv h
    obtain ⟨q1, q2, q3, q4⟩ := R.bothPush (obj := .map #[] 0) (l := ⟨w.heap.size, 0, 0, 0⟩) hp trivial rfl ⟨#[], by rw [wpush_get]; exact if_pos rfl, .nil⟩
    exact ⟨_, .map (some w.heap.size), _, _, val_run rfl, .inl rfl, .map _ ⟨w.heap.size, 0, 0, 0⟩ (Emb.with_same _ _ _), q1, q2, q3, q4⟩
  · cases h

theorem oAssert_ok {x : Operand} {s t : TypeId} {ok : Bool} {v : AV} {M' : Mem} (h : oAssert V tm M x t ok = .val v M') :
    Came V.P V.G N φ M w (Instr.typeAssert (ρ x) s t ok >>= fun x => (pure (Next.value x) : Sem Next)) v M' := by
  have hnot : ∀ (M' : Mem), oAssertNot V M t ok = .val v M' → M' = M ∧ ok = true ∧ ∃ zu, (zeroValue t).run V.P w = .ok zu w ∧ VRel φ v (.tuple #[zu, .bool false]) := by
    intro M' h
    unfold oAssertNot at h
    cases ok
    · cases h
    · rw [cond_true] at h
      split at h
      · rename_i z hz
        cases h
        obtain ⟨zu, hz1, hz2⟩ := zero_ok hV hz w
        exact ⟨rfl, rfl, zu, hz1, .tuple _ _ (.cons _ _ _ _ (hz2 φ) (.cons _ _ _ _ (.bool _) .nil))⟩
      · cases h
  unfold oAssert at h
  split at h
  · cases h
  · rename_i d hd hu
    split at h
    · rename_i hx
      have hx := ho _ _ hx
      generalize ρ x = u at hx
      cases hx
      obtain ⟨rfl, rfl, zu, h1, h2⟩ := hnot _ h
      refine .stayV R ?_ h2
      simp only [Instr.typeAssert, Sem.run_bind, run_underlying (und_of hV hu), Result.andThen_ok]
      cases d <;> first
        | exact absurd rfl (hd _)
        | (simp only [if_true, Sem.run_bind, h1, Result.andThen_ok]; rfl)
    · rename_i dt y hx
      have hx := ho _ _ hx
      generalize ρ x = u at hx
      cases hx with
      | iface _ _ yu hy =>
      cases hc : Nat.beq dt t
      · rw [hc, cond_false] at h
        obtain ⟨rfl, rfl, zu, h1, h2⟩ := hnot _ h
        have hne : ¬ dt = t := fun e => by rw [e] at hc; simp at hc
        refine .stayV R ?_ h2
        simp only [Instr.typeAssert, Sem.run_bind, run_underlying (und_of hV hu), Result.andThen_ok]
        cases d <;> first
          | exact absurd rfl (hd _)
          | (simp only [if_neg hne, if_true, Sem.run_bind, h1, Result.andThen_ok]; rfl)
      · rw [hc, cond_true] at h
        cases h
        have he : dt = t := Nat.eq_of_beq_eq_true hc
        refine .stayV R (u := if ok then .tuple #[yu, .bool true] else yu) ?_ ?_
        · simp only [Instr.typeAssert, Sem.run_bind, run_underlying (und_of hV hu), Result.andThen_ok]
          cases d <;> first
            | exact absurd rfl (hd _)
            | (simp only [if_pos he]; rfl)
        · cases ok
          · exact hy
          · exact .tuple _ _ (.cons _ _ _ _ hy (.cons _ _ _ _ (.bool _) .nil))
    · cases h
  · cases h

end
end Go.Proofs.Ytcpffiihdnecjaa.Ev
