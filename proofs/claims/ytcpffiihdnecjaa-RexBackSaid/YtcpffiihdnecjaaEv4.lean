/- The evaluator: an abstract memory and a world; reading and writing. -/
import Derived.Test.YtcpffiihdnecjaaEv3
namespace Go.Proofs.Ytcpffiihdnecjaa.Ev
set_option linter.unusedSectionVars false
set_option linter.unusedSimpArgs false
set_option linter.unusedVariables false
open Go

/-- A frame's slots. -/
noncomputable def TmRel (φ : Emb) (nt : Nat) (tm : T AV) (tmps : Array Value) : Prop :=
  tmps.size = nt ∧ ∀ t v, tm.get t = some v → ∃ u, tmps[t]? = some u ∧ VRel φ v u

theorem TmRel.mono {φ ψ : Emb} (h : φ.le ψ) {nt : Nat} {tm : T AV} {tmps : Array Value} (k : TmRel φ nt tm tmps) : TmRel ψ nt tm tmps :=
  ⟨k.1, fun t v e => let ⟨u, hu, hv⟩ := k.2 t v e; ⟨u, hu, hv.mono h⟩⟩

/-- What stands behind a row in its room, where that is known: bytes, each 0. -/
noncomputable def Spare (P : Program) (r : Row) (l : Loc) (c : Array Value) : Prop :=
  r.ub = true → (∀ w, (zeroValue r.elem).run P w = .ok (.int .u8 0) w) ∧ l.room < 9223372036854775808 ∧ ∀ j, r.len ≤ j → j < l.room → c[l.off + j]? = some (.int .u8 0)

noncomputable def RowRel (P : Program) (φ : Emb) (M : Mem) (w : World) (r : Row) (l : Loc) : Prop :=
  ∃ (c : Array Value) (fz : Nat × Nat), w.heap[l.blk]? = some (.cells c r.elem fz) ∧ l.off + l.room = c.size ∧ P.cellsOf r.elem = l.esz ∧
    (r.whole = true → l.off = 0 ∧ l.room = r.len) ∧
    (M.live r = true → Spare P r l c ∧ r.len ≤ l.room ∧ (fz.1 = fz.2 ∨ fz.2 ≤ l.off + r.fr ∨ (r.sh = true ∧ c.size ≤ fz.1)) ∧
      ∀ i v, r.cells.get i = some v → i < r.len ∧ ∃ u, c[l.off + i]? = some u ∧ VRel φ v u)

inductive EsRel (φ : Emb) : List (AV × AV × Nat) → List MapEntry → Prop
  | nil : EsRel φ [] []
  | cons (k v : AV) (n : Nat) (e : MapEntry) (es : List (AV × AV × Nat)) (fs : List MapEntry) :
      VRel φ k e.key → VRel φ v e.val → e.born = n → EsRel φ es fs → EsRel φ ((k, v, n) :: es) (e :: fs)

theorem EsRel.mono {φ ψ : Emb} (h : φ.le ψ) : ∀ {es : List (AV × AV × Nat)} {fs : List MapEntry}, EsRel φ es fs → EsRel ψ es fs
  | _, _, .nil => .nil
  | _, _, .cons k v n e es fs h1 h2 h3 h4 => .cons k v n e es fs (h1.mono h) (h2.mono h) h3 (EsRel.mono h h4)

noncomputable def BlkRel (P : Program) (φ : Emb) (M : Mem) (w : World) (o : Blk) (l : Loc) : Prop :=
  match o with
  | .row r => RowRel P φ M w r l
  | .map es clock => ∃ fs, w.heap[l.blk]? = some (.map fs clock) ∧ EsRel φ es fs.toList
  | .mapIter .. => False
  | .loop a => ∃ L : Loop, w.heap[l.blk]? = some (.loop L) ∧ L.state = a.state ∧ L.pending = a.pending ∧ L.fn = a.fn ∧ TmRel φ a.nt a.tmps L.tmps ∧ L.params = a.params ∧
      L.assign = a.assign ∧ L.body = a.body ∧ ∃ d, φ a.defers = some d ∧ L.defers = d.blk
  | .deferred there => w.heap[l.blk]? = some (.deferred (if there then some [] else none))

/-- The world of an abstract memory. Below G: what is only read; from N on lie the call's own blocks. -/
structure Rep (P : Program) (G N : Nat) (φ : Emb) (M : Mem) (w : World) : Prop where
  dom : ∀ b l, φ b = some l → b < M.next ∧ l.blk < w.heap.size ∧ (G ≤ b → N ≤ l.blk)
  blk : ∀ b l, φ b = some l → ∃ o, M.heap.get b = some o ∧ BlkRel P φ M w o l
  apart : ∀ b b' l l', φ b = some l → φ b' = some l' → b ≠ b' → l.blk = l'.blk →
    ∃ r r', M.heap.get b = some (.row r) ∧ M.heap.get b' = some (.row r') ∧ r.cls = r'.cls ∧ r.cls ≠ 0 ∧ r.ep ≠ r'.ep
  eps : ∀ b r, M.heap.get b = some (.row r) → r.cls = 0 ∨ (r.cls < M.next ∧ ∃ e, M.eps.get r.cls = some e ∧ r.ep ≤ e)
  top : ∀ b o, M.heap.get b = some o → b < M.next
  heap : N ≤ w.heap.size
  gn : G ≤ M.next
  ng : P.globals.size ≤ G
  glob : ∀ g o, g < P.globals.size → M.heap.get g = some o → ∃ l, φ g = some l ∧ l.blk = g ∧ l.off = 0

/-- What a piece of the run leaves as it was. -/
structure Kept (N : Nat) (w w' : World) : Prop where
  os : w'.os = w.os
  tape : w'.tape = w.tape
  output : w'.output = w.output
  size : w.heap.size ≤ w'.heap.size
  block : ∀ k, k < N → w'.heap[k]? = w.heap[k]?

theorem Kept.refl (N : Nat) (w : World) : Kept N w w := ⟨rfl, rfl, rfl, Nat.le_refl _, fun _ _ => rfl⟩
theorem Kept.trans {N : Nat} {a b c : World} (h : Kept N a b) (k : Kept N b c) : Kept N a c :=
  ⟨k.os.trans h.os, k.tape.trans h.tape, k.output.trans h.output, Nat.le_trans h.size k.size, fun i hi => (k.block i hi).trans (h.block i hi)⟩

/-- What a piece of the abstract run leaves as it was: blocks that no address is known to lead to. -/
noncomputable def Unm (φ : Emb) (M M' : Mem) : Prop := M.next ≤ M'.next ∧ ∀ b, b < M.next → φ b = none → M'.heap.get b = M.heap.get b
theorem Unm.refl (φ : Emb) (M : Mem) : Unm φ M M := ⟨Nat.le_refl _, fun _ _ _ => rfl⟩

/-- Another embedding, that knows more of what is new alone. -/
noncomputable def Ext (φ : Emb) (M : Mem) (ψ : Emb) : Prop := φ.le ψ ∧ ∀ b, b < M.next → φ b = none → ψ b = none
theorem Ext.refl (φ : Emb) (M : Mem) : Ext φ M φ := ⟨φ.le_refl, fun _ _ h => h⟩
theorem Ext.trans {φ ψ χ : Emb} {M M' : Mem} (h : Ext φ M ψ) (hM : M.next ≤ M'.next) (k : Ext ψ M' χ) : Ext φ M χ :=
  ⟨Emb.le_trans h.1 k.1, fun b hb e => k.2 b (Nat.lt_of_lt_of_le hb hM) (h.2 b hb e)⟩
theorem Unm.trans {φ ψ : Emb} {M M' M'' : Mem} (h : Unm φ M M') (e : Ext φ M ψ) (k : Unm ψ M' M'') : Unm φ M M'' :=
  ⟨Nat.le_trans h.1 k.1, fun b hb hn => (k.2 b (Nat.lt_of_lt_of_le hb h.1) (e.2 b hb hn)).trans (h.2 b hb hn)⟩

theorem live_spec {M : Mem} {r : Row} (h : M.live r = true) : r.cls = 0 ∨ M.eps.get r.cls = some r.ep := by
  unfold Mem.live at h
  cases hc : Nat.beq r.cls 0
  · rw [hc, cond_false] at h
    split at h
    · rename_i e he
      right; rw [he, Nat.eq_of_beq_eq_true h]
    · cases h
  · left; exact Nat.eq_of_beq_eq_true hc

theorem live_of {M : Mem} {r : Row} (h : r.cls = 0 ∨ M.eps.get r.cls = some r.ep) : M.live r = true := by
  unfold Mem.live
  rcases h with h | h
  · rw [h]; rfl
  · cases hc : Nat.beq r.cls 0
    · rw [cond_false, h]; simp
    · rfl

theorem row_spec {M : Mem} {b : Nat} {r : Row} (h : M.row b = some r) : M.heap.get b = some (.row r) ∧ M.live r = true := by
  unfold Mem.row at h
  split at h
  · rename_i q hq
    cases hl : M.live q
    · rw [hl] at h; cases h
    · rw [hl, cond_true] at h; cases h; exact ⟨hq, hl⟩
  · cases h

theorem Rep.rowAt {P : Program} {G N : Nat} {φ : Emb} {M : Mem} {w : World} (R : Rep P G N φ M w) {b : Nat} {r : Row} {l : Loc} (h : M.row b = some r) (hl : φ b = some l) :
    RowRel P φ M w r l ∧ M.live r = true := by
  obtain ⟨hg, hlv⟩ := row_spec h
  obtain ⟨o, ho, hr⟩ := R.blk b l hl
  rw [hg] at ho; cases ho
  exact ⟨hr, hlv⟩

-- reading

theorem getsFrom_get {t : T AV} : ∀ {n i : Nat} {cs : List AV}, getsFrom t i n = some cs → cs.length = n ∧ ∀ j, j < n → t.get (i + j) = cs[j]?
  | 0, i, cs, h => by cases h; exact ⟨rfl, fun j hj => by omega⟩
  | n + 1, i, cs, h => by
    unfold getsFrom at h
    split at h
    · rename_i v hv
      split at h
      · rename_i l hl
        cases h
        obtain ⟨h1, h2⟩ := getsFrom_get hl
        refine ⟨by simp [h1], fun j hj => ?_⟩
        cases j with
        | zero => simpa using hv
        | succ j => rw [show i + (j + 1) = i + 1 + j by omega, h2 j (by omega)]; simp
      · cases h
    · cases h

theorem addr_add (B o i n : Nat) : Addr.add ⟨B, o + i, none⟩ n = ⟨B, o + (i + n), none⟩ := by
  unfold Addr.add
  split
  · rename_i h; rw [h, Nat.add_zero]
  · rw [Nat.add_assoc]

theorem Loc.addr_add (l : Loc) (i n : Nat) : (l.addr i).add n = l.addr (i + n) := Ev.addr_add _ _ _ _

theorem load_run {P : Program} {w : World} {B o : Nat} {c : Array Value} {e : TypeId} {fz : Nat × Nat} {u : Value} (h : w.heap[B]? = some (.cells c e fz)) (hc : c[o]? = some u) :
    (load ⟨B, o, none⟩).run P w = .ok u w := by
  have : w.cell? ⟨B, o, none⟩ = some u := by simp [World.cell?, h, hc]
  simp [load, Sem.run, this]

theorem bind_run {α β : Type} {P : Program} (s : Sem α) (f : α → Sem β) : ∀ (w : World), (s >>= f).run P w = match s.run P w with
    | .ok a w' => (f a).run P w'
    | .halt h w' => .halt h w' := by
  show ∀ w, (s.bind f).run P w = _
  induction s with
  | pure a => intro w; rfl
  | load m a k ih =>
    intro w
    simp only [Sem.bind, Sem.run]
    split
    · exact ih _ w
    · split
      · exact ih _ w
      · rfl
  | store m a v k ih =>
    intro w
    cases v <;> simp only [Sem.bind, Sem.run] <;> first
      | rfl
      | ((split) <;> first
          | ((split) <;> first | rfl | exact ih _)
          | rfl)
  | new o k ih => intro w; simp only [Sem.bind, Sem.run]; exact ih _ _
  | shape r k ih => intro w; simp only [Sem.bind, Sem.run]; exact ih _ _
  | freeze a n k ih => intro w; simp only [Sem.bind, Sem.run]; exact ih _
  | frozen a k ih => intro w; simp only [Sem.bind, Sem.run]; exact ih _ _
  | getObj r k ih =>
    intro w
    simp only [Sem.bind, Sem.run]
    split
    · rfl
    · exact ih _ _
    · rfl
  | setObj r o k ih =>
    intro w
    simp only [Sem.bind, Sem.run]
    split
    · rfl
    · exact ih _
    · rfl
  | choose q k ih =>
    intro w
    simp only [Sem.bind, Sem.run]
    split
    · exact ih _ _
    · exact ih _ _
  | sys c k ih => intro w; simp only [Sem.bind, Sem.run]; exact ih _ _
  | program k ih => intro w; simp only [Sem.bind, Sem.run]; exact ih _ _
  | mark m k ih => intro w; simp only [Sem.bind, Sem.run]; exact ih _
  | halt h => intro w; rfl

theorem bind_ok {α β : Type} {P : Program} {s : Sem α} {f : α → Sem β} {w w' : World} {a : α} (h : s.run P w = .ok a w') : (s >>= f).run P w = (f a).run P w' := by
  rw [bind_run, h]

theorem pure_run {α : Type} {P : Program} (a : α) (w : World) : (pure a : Sem α).run P w = .ok a w := rfl

theorem loadCellsFrom_run {P : Program} {w : World} {B o : Nat} {c : Array Value} {e : TypeId} {fz : Nat × Nat} (h : w.heap[B]? = some (.cells c e fz)) :
    ∀ (n i k : Nat) (us : List Value) (acc : Array Value), us.length = n → (∀ j, j < n → c[o + k + i + j]? = us[j]?) →
      (loadCellsFrom ⟨B, o + k, none⟩ i n acc).run P w = .ok (acc ++ us.toArray) w
  | 0, i, k, us, acc, hl, _ => by
    have : us = [] := List.length_eq_zero_iff.1 hl
    subst this
    simp [loadCellsFrom, pure_run]
  | n + 1, i, k, us, acc, hl, hc => by
    match us, hl, hc with
    | u :: us, hl, hc =>
      have h0 := hc 0 (by omega)
      simp only [Nat.add_zero, List.getElem?_cons_zero] at h0
      simp only [loadCellsFrom]
      rw [Ev.addr_add, bind_ok (load_run h (u := u) (by rw [show o + (k + i) = o + k + i by omega]; exact h0))]
      rw [loadCellsFrom_run h n (i + 1) k us (acc.push u) (by simpa using hl) (fun j hj => by
        have := hc (j + 1) (by omega)
        rw [List.getElem?_cons_succ] at this
        rw [← this]; congr 1; omega)]
      simp

theorem loads_run {P : Program} {G N : Nat} {φ : Emb} {M : Mem} {w : World} (R : Rep P G N φ M w) {b i n : Nat} {l : Loc} {cs : List AV} (hl : φ b = some l) (h : M.loads b i n = some cs) :
    ∃ us : List Value, (loadCells (l.addr i) n).run P w = .ok us.toArray w ∧ VsRel φ cs us := by
  unfold Mem.loads at h
  cases hn : Nat.beq n 0
  · rw [hn, cond_false] at h
    split at h
    · rename_i r hr
      obtain ⟨⟨c, fz, hw, hs, _, _, hlv⟩, hlive⟩ := R.rowAt hr hl
      obtain ⟨_, _, _, hcell⟩ := hlv hlive
      obtain ⟨h1, h2⟩ := getsFrom_get h
      have key : ∀ (k : Nat) (cs : List AV), (∀ j, j < cs.length → r.cells.get (i + k + j) = cs[j]?) → ∃ us : List Value, VsRel φ cs us ∧ us.length = cs.length ∧ ∀ j, j < cs.length → c[l.off + (i + k + j)]? = us[j]? := by
        intro k cs
        induction cs generalizing k with
        | nil => intro _; exact ⟨[], .nil, rfl, fun j hj => by simp at hj⟩
        | cons x cs ih =>
          intro hx
          have h0 := hx 0 (by simp)
          simp only [Nat.add_zero, List.getElem?_cons_zero] at h0
          obtain ⟨_, u, hu, hxu⟩ := hcell _ _ h0
          obtain ⟨us, hus, hlen, hj⟩ := ih (k + 1) (fun j hj => by
            have := hx (j + 1) (by simp; omega)
            rw [List.getElem?_cons_succ] at this
            rw [← this]; congr 1; omega)
          refine ⟨u :: us, .cons _ _ _ _ hxu hus, by simp [hlen], fun j hj' => ?_⟩
          cases j with
          | zero => simpa using hu
          | succ j =>
            rw [List.getElem?_cons_succ, ← hj j (by simp at hj'; omega)]
            congr 1; omega
      obtain ⟨us, hus, hlen, hj⟩ := key 0 cs (fun j hj => by rw [Nat.add_zero]; exact h2 j (by omega))
      refine ⟨us, ?_, hus⟩
      unfold loadCells Loc.addr
      rw [loadCellsFrom_run hw n 0 i us #[] (by omega) (fun j hj' => by
        have := hj j (by omega)
        rw [Nat.add_zero] at this
        rw [← this]; congr 1; omega)]
      simp
    · cases h
  · rw [hn, cond_true] at h
    cases h
    have : n = 0 := Nat.eq_of_beq_eq_true hn
    subst this
    exact ⟨[], rfl, .nil⟩

theorem load1_run {P : Program} {G N : Nat} {φ : Emb} {M : Mem} {w : World} (R : Rep P G N φ M w) {b i : Nat} {l : Loc} {v : AV} (hl : φ b = some l) (h : M.load b i = some v) :
    ∃ u, (load (l.addr i)).run P w = .ok u w ∧ VRel φ v u := by
  unfold Mem.load at h
  split at h
  · rename_i r hr
    obtain ⟨⟨c, fz, hw, hs, _, _, hlv⟩, hlive⟩ := R.rowAt hr hl
    obtain ⟨_, _, _, hcell⟩ := hlv hlive
    obtain ⟨_, u, hu, hv⟩ := hcell _ _ h
    exact ⟨u, load_run hw hu, hv⟩
  · cases h

-- writing

/-- The world with one block in another state. -/
structure Upd (w w' : World) (B : Nat) (o : Obj) : Prop where
  os : w'.os = w.os
  tape : w'.tape = w.tape
  output : w'.output = w.output
  size : w'.heap.size = w.heap.size
  other : ∀ k, k ≠ B → w'.heap[k]? = w.heap[k]?
  here : w'.heap[B]? = some o

theorem Upd.kept {w w' : World} {B : Nat} {o : Obj} (h : Upd w w' B o) {N : Nat} (hN : N ≤ B) : Kept N w w' :=
  ⟨h.os, h.tape, h.output, by rw [h.size]; exact Nat.le_refl _, fun k hk => h.other k (by omega)⟩

theorem setCell_upd {w : World} {B o : Nat} {c : Array Value} {e : TypeId} {fz : Nat × Nat} (h : w.heap[B]? = some (.cells c e fz)) (v : Value) :
    Upd w (w.setCell ⟨B, o, none⟩ v) B (.cells (c.setIfInBounds o v) e fz) := by
  refine ⟨rfl, rfl, rfl, by simp [World.setCell], fun k hk => ?_, ?_⟩
  · simp only [World.setCell, Array.getElem?_modify]
    rw [if_neg (fun e => hk e.symm)]
  · simp only [World.setCell, Array.getElem?_modify, if_true, h, Option.map_some]
    rfl

theorem store_run {P : Program} {w : World} {B o : Nat} {c : Array Value} {e : TypeId} {fz : Nat × Nat} {v u : Value} (h : w.heap[B]? = some (.cells c e fz)) (hc : c[o]? = some u)
    (hf : ¬ (fz.1 ≤ o ∧ o < fz.2)) (hv : oneV v = true) : (store ⟨B, o, none⟩ v).run P w = .ok () (w.setCell ⟨B, o, none⟩ v) := by
  have h1 : w.cell? ⟨B, o, none⟩ = some u := by simp [World.cell?, h, hc]
  have h2 : w.frozen? ⟨B, o, none⟩ = false := by
    obtain ⟨lo, hi⟩ := fz
    simp only [World.frozen?, h]
    simp only [← Bool.not_eq_true, Bool.and_eq_true, decide_eq_true_eq]
    exact hf
  cases v <;> first
    | (simp [store, Sem.run, h1, h2]; done)
    | cases hv

/-- Cells from o on, written. -/
noncomputable def writeAt (c : Array Value) (o : Nat) : List Value → Array Value
  | [] => c
  | v :: vs => writeAt (c.setIfInBounds o v) (o + 1) vs

theorem writeAt_size : ∀ (vs : List Value) (c : Array Value) (o : Nat), (writeAt c o vs).size = c.size
  | [], _, _ => rfl
  | v :: vs, c, o => by rw [writeAt, writeAt_size vs]; simp

theorem writeAt_get : ∀ (vs : List Value) (c : Array Value) (o : Nat), o + vs.length ≤ c.size → ∀ j, (writeAt c o vs)[j]? = if o ≤ j ∧ j < o + vs.length then vs[j - o]? else c[j]?
  | [], c, o, _, j => by rw [writeAt, if_neg (by simp)]
  | v :: vs, c, o, h, j => by
    rw [writeAt, writeAt_get vs _ _ (by simp at h ⊢; omega)]
    simp only [List.length_cons] at h ⊢
    by_cases h1 : o + 1 ≤ j ∧ j < o + 1 + vs.length
    · rw [if_pos h1, if_pos (by omega), show j - o = (j - (o + 1)) + 1 by omega, List.getElem?_cons_succ]
    · rw [if_neg h1]
      by_cases h2 : o = j
      · subst h2
        rw [if_pos (by omega), Array.getElem?_setIfInBounds_self_of_lt (by omega)]
        simp
      · rw [if_neg (by omega), Array.getElem?_setIfInBounds_ne h2]

theorem storeCells_run {P : Program} {B o k : Nat} {e : TypeId} {fz : Nat × Nat} : ∀ (vs : List Value) (i : Nat) (w : World) (c : Array Value), w.heap[B]? = some (.cells c e fz) →
    o + k + i + vs.length ≤ c.size → (fz.1 = fz.2 ∨ fz.2 ≤ o + k + i ∨ c.size ≤ fz.1) → (∀ v ∈ vs, oneV v = true) →
    ∃ w', (storeCells ⟨B, o + k, none⟩ vs i).run P w = .ok () w' ∧ Upd w w' B (.cells (writeAt c (o + k + i) vs) e fz)
  | [], i, w, c, h, _, _, _ => ⟨w, rfl, rfl, rfl, rfl, rfl, fun _ _ => rfl, h⟩
  | v :: vs, i, w, c, h, hs, hf, hv => by
    simp only [List.length_cons] at hs
    have hlt : o + k + i < c.size := by omega
    obtain ⟨u, hu⟩ : ∃ u, c[o + k + i]? = some u := ⟨c[o + k + i], by simp [hlt]⟩
    have hnf : ¬ (fz.1 ≤ o + k + i ∧ o + k + i < fz.2) := by rcases hf with hf | hf | hf <;> omega
    have hrun := store_run (P := P) (v := v) h hu hnf (hv v (by simp))
    have hupd := setCell_upd (o := o + k + i) h v
    have hsz : o + k + (i + 1) + vs.length ≤ (c.setIfInBounds (o + k + i) v).size := by rw [Array.size_setIfInBounds]; omega
    have hf' : fz.1 = fz.2 ∨ fz.2 ≤ o + k + (i + 1) ∨ (c.setIfInBounds (o + k + i) v).size ≤ fz.1 := by rw [Array.size_setIfInBounds]; omega
    obtain ⟨w', hr, hu'⟩ := storeCells_run (P := P) vs (i + 1) _ _ hupd.here hsz hf' (fun x hx => hv x (by simp [hx]))
    refine ⟨w', ?_, ?_⟩
    · unfold storeCells
      rw [Ev.addr_add, show o + (k + i) = o + k + i by omega, bind_ok hrun]
      exact hr
    · exact ⟨hu'.os.trans hupd.os, hu'.tape.trans hupd.tape, hu'.output.trans hupd.output, hu'.size.trans hupd.size, fun j hj => (hu'.other j hj).trans (hupd.other j hj), hu'.here⟩

theorem setsFrom_get : ∀ {vs : List AV} {t t' : T AV} {i : Nat}, setsFrom t i vs = some t' → ∀ j, t'.get j = if i ≤ j ∧ j < i + vs.length then vs[j - i]? else t.get j
  | [], t, t', i, h, j => by cases h; rw [if_neg (by simp)]
  | v :: vs, t, t', i, h, j => by
    unfold setsFrom at h
    split at h
    · rename_i t1 h1
      rw [setsFrom_get h j]
      have hs := T.set_get _ _ _ _ h1 j
      simp only [List.length_cons]
      by_cases c1 : i + 1 ≤ j ∧ j < i + 1 + vs.length
      · rw [if_pos c1, if_pos (by omega), show j - i = (j - (i + 1)) + 1 by omega, List.getElem?_cons_succ]
      · rw [if_neg c1, hs]
        by_cases c2 : j = i
        · subst c2; rw [if_pos rfl, if_pos (by omega)]; simp
        · rw [if_neg c2, if_neg (by omega)]
    · cases h

theorem VsRel.ones {φ : Emb} : ∀ {xs : List AV} {us : List Value}, VsRel φ xs us → xs.all AV.one = true → ∀ u ∈ us, oneV u = true
  | _, _, .nil, _, u, hu => by simp at hu
  | _, _, .cons x v xs us h k, ha, u, hu => by
    simp only [List.all_cons, Bool.and_eq_true] at ha
    rcases List.mem_cons.1 hu with rfl | hm
    · rw [← h.one]; exact ha.1
    · exact VsRel.ones k ha.2 u hm

end Go.Proofs.Ytcpffiihdnecjaa.Ev
