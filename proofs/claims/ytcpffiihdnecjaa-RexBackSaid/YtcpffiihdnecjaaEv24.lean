/- The evaluator: what a floating operation looks at. -/
import Derived.Test.YtcpffiihdnecjaaEv23
namespace Go.Proofs.Ytcpffiihdnecjaa.Ev
set_option linter.unusedSectionVars false
set_option linter.unusedSimpArgs false
set_option linter.unusedVariables false
open Go

theorem fillA_congr {tm tm' : T AV} {pl : Nat → Option (Nat × Nat)} : ∀ (ps : List (Nat × Operand)) (cs : List AV), (∀ p ∈ ps, evalA tm' p.2 = evalA tm p.2) → fillA tm' pl cs ps = fillA tm pl cs ps
  | [], _, _ => rfl
  | (i, x) :: r, cs, h => by
    have hx : evalA tm' x = evalA tm x := h (i, x) (by simp)
    unfold fillA
    rw [hx]
    split
    · split
      · simp only []
        rw [fillA_congr r _ (fun p hp => h p (by simp [hp]))]
      · rfl
    · rfl

theorem evalsA_congr {tm tm' : T AV} : ∀ (l : List Operand), (∀ x ∈ l, evalA tm' x = evalA tm x) → evalsA tm' l = evalsA tm l
  | [], _ => rfl
  | x :: r, h => by
    unfold evalsA
    rw [h x (by simp), evalsA_congr r (fun y hy => h y (by simp [hy]))]

theorem one1_congr {tm tm' : T AV} (l : List Operand) (h : ∀ x ∈ l, evalA tm' x = evalA tm x) : one1 tm' l = one1 tm l := by
  unfold one1
  split
  · exact h _ (by simp)
  · rfl

theorem two2_congr {tm tm' : T AV} (l : List Operand) (h : ∀ x ∈ l, evalA tm' x = evalA tm x) : two2 tm' l = two2 tm l := by
  unfold two2
  split
  · rw [h _ (by simp), h _ (by simp)]
  · rfl

theorem optI_congr {tm tm' : T AV} {o : Option Operand} {y d : Nat} (h : ∀ x, o = some x → evalA tm' x = evalA tm x) : optI tm' o y d = optI tm o y d := by
  unfold optI
  split
  · rfl
  · rw [h _ rfl]

theorem sliceA_congr {V : Env} {tm tm' : T AV} {M : Mem} {t : TypeId} {x : Operand} {lo hi mx : Option Operand} (hx : evalA tm' x = evalA tm x) (h1 : ∀ y, lo = some y → evalA tm' y = evalA tm y)
    (h2 : ∀ y, hi = some y → evalA tm' y = evalA tm y) (h3 : ∀ y, mx = some y → evalA tm' y = evalA tm y) : sliceA V tm' M t x lo hi mx = sliceA V tm M t x lo hi mx := by
  have e1 := fun y d => optI_congr (y := y) (d := d) h1
  have e2 := fun y d => optI_congr (y := y) (d := d) h2
  have e3 := fun y d => optI_congr (y := y) (d := d) h3
  have ek : ∀ size b i len c mx (_ : ∀ y d, optI tm' mx y d = optI tm mx y d), sliceKnown tm' size b i len c lo hi mx = sliceKnown tm size b i len c lo hi mx := by
    intro size b i len c mx em
    unfold sliceKnown
    cases mx with
    | none => simp only [e1, e2]
    | some m => cases hi with
      | none => rfl
      | some h => simp only [e1, e2, em]
  have el : ∀ size b i len c, sliceLoose tm' size b i len c lo hi mx = sliceLoose tm size b i len c lo hi mx := by
    intro size b i len c
    unfold sliceLoose
    cases mx with
    | none => simp only [e1, e2]
    | some m => cases hi with
      | none => rfl
      | some h => simp only [e1, e2, e3]
  have en : sliceNil tm' lo hi mx = sliceNil tm lo hi mx := by
    unfold sliceNil
    simp only [e1, e2, e3]
  unfold sliceA
  rw [hx]
  unfold sliceStr sliceSl sliceArr
  simp only [ek _ _ _ _ _ mx e3, ek _ _ _ _ _ none (fun _ _ => rfl), el, en, e1, e2]

theorem fA_congr {V : Env} {tm tm' : T AV} {M : Mem} {o : Op} (h : ∀ x ∈ o.operands, evalA tm' x = evalA tm x) : fA V tm' M o = fA V tm M o := by
  cases o <;> simp only [Op.operands] at h <;> unfold fA <;> simp only []
  case move x => unfold fMove; rw [h x (by simp)]
  case assign x => unfold fMove; rw [h x (by simp)]
  case pick c a b => unfold fPick; rw [h c (by simp), h a (by simp), h b (by simp)]
  case box e x => unfold fBox; rw [h x (by simp)]
  case build t parts =>
    unfold fBuild
    have e : ∀ pl cs, fillA tm' pl cs parts.toList = fillA tm pl cs parts.toList := fun pl cs => fillA_congr _ _ (fun p hp => h p.2 (by simp; exact ⟨p.1, by simpa using hp⟩))
    simp only [e]
  case buildSlice t len parts =>
    unfold fBuildSlice fBuildSlice1
    have e : ∀ pl cs, fillA tm' pl cs parts.toList = fillA tm pl cs parts.toList := fun pl cs => fillA_congr _ _ (fun p hp => h p.2 (by simp; exact ⟨p.1, by simpa using hp⟩))
    simp only [e]
  case load t a => unfold fLoad; rw [h a (by simp)]
  case nilCheck x => unfold fNilCheck; rw [h x (by simp)]
  case binOp op t x y u => unfold fBin; rw [h x (by simp), h y (by simp)]
  case unOp op t x => unfold fUn; rw [h x (by simp)]
  case convert s d x => unfold fConv; rw [h x (by simp)]
  case makeInterface t x => unfold fIface; rw [h x (by simp)]
  case makeFunc fn xs ys =>
    unfold fFunc
    rw [evalsA_congr xs.toList (fun x hx => h x (by simp at hx; simp [hx])), evalsA_congr ys.toList (fun x hx => h x (by simp at hx; simp [hx]))]
  case slice t x lo hi mx =>
    rw [sliceA_congr (h x (by simp)) (fun y e => h y (by simp [e])) (fun y e => h y (by simp [e])) (fun y e => h y (by simp [e]))]
  case fieldAddr s x f => unfold fFieldAddr; rw [h x (by simp)]
  case field t x f => unfold fField; rw [h x (by simp)]
  case indexAddr t x y => unfold fIndexAddr; rw [h x (by simp), h y (by simp)]
  case index t x y => unfold fIndex; rw [h x (by simp), h y (by simp)]
  case extract t i => unfold fExtract; rw [h t (by simp)]
  case call c =>
    unfold fCall fBuiltin
    have e : ∀ x ∈ c.args.toList, evalA tm' x = evalA tm x := fun x hx => h x (by simp [Call.operands]; simp at hx; cases c.callee <;> simp [hx])
    simp only [one1_congr _ e, two2_congr _ e]

/-- Slots that an operation looks at alone. -/
noncomputable def sees (all : List Oper) (tm tm' : T AV) (o : Oper) : Prop := ∀ t ∈ looks all o, tm'.get t = tm.get t

theorem sees_eval {all : List Oper} {tm tm' : T AV} {o : Oper} (h : sees all tm tm' o) : ∀ x ∈ o.op.operands, evalA tm' x = evalA tm x := by
  intro x hx
  cases x with
  | tmp t => exact h t (List.mem_append_left _ (List.mem_filterMap.2 ⟨.tmp t, by simpa using hx, rfl⟩))
  | _ => rfl

theorem sees_wanted {all : List Oper} {tm tm' : T AV} {o : Oper} (h : sees all tm tm' o) : wantedA all tm' o = wantedA all tm o := by
  unfold wantedA
  split
  · rfl
  · rename_i j want hg
    split
    · rename_i p hp
      unfold wantedA1
      split
      · rename_i d hd
        rw [h d (List.mem_append_right _ (by rw [hg]; simp [hp, hd]))]
      · rfl
    · rfl

-- a row that is made besides

theorem row_push {M M' : Mem} {o : Blk} (h : M.push o = some M') (ht : ∀ b o, M.heap.get b = some o → b < M.next) {b : Nat} {r : Row} (hr : M.row b = some r) : M'.row b = some r := by
  obtain ⟨h1, h2, h3⟩ := push_spec h
  obtain ⟨hg, hl⟩ := row_spec hr
  have := ht _ _ hg
  unfold Mem.row
  rw [h3, if_neg (by omega), hg]
  simp only []
  rw [live_same h2, hl, cond_true]

theorem loads_push {M M' : Mem} {o : Blk} (h : M.push o = some M') (ht : ∀ b o, M.heap.get b = some o → b < M.next) {b i n : Nat} {cs : List AV} (hr : M.loads b i n = some cs) : M'.loads b i n = some cs := by
  unfold Mem.loads at hr ⊢
  cases hn : Nat.beq n 0
  · rw [hn, cond_false] at hr
    rw [cond_false]
    split at hr
    · rename_i r hr'
      rw [row_push h ht hr']
      exact hr
    · cases hr
  · rw [hn, cond_true] at hr
    rw [cond_true]
    exact hr

section
variable {V : Env} (hV : EnvOk V) {N : Nat} {φ : Emb} {M M' : Mem} {w : World} (R : Rep V.P V.G N φ M w) {o : Blk} (hp : M.push o = some M')
include hV R hp

theorem deg_push (v : AV) : deg V M' v = deg V M v := by
  obtain ⟨h1, h2, h3⟩ := push_spec hp
  unfold deg
  split
  · rename_i g
    cases hg : Nat.blt g V.E.ng
    · rfl
    · have hlt := blt_true hg
      have hE : V.E = tabOf V.P := hV
      have : V.E.ng = V.P.globals.size := by rw [hE]; rfl
      have hG := R.ng
      have hn := R.gn
      rw [h3, if_neg (by omega)]
  · rfl

theorem degO_push (v : Option AV) : degO V M' v = degO V M v := by
  unfold degO
  split
  · rw [deg_push hV R hp]
  · rfl

omit hV in
theorem isRow_push {b : Nat} {e : TypeId} (h : isRowOf M b e = true) : isRowOf M' b e = true := by
  obtain ⟨h1, h2, h3⟩ := push_spec hp
  unfold isRowOf at h ⊢
  split at h
  · rename_i r hr
    have := R.top _ _ hr
    rw [h3, if_neg (by omega), hr]
    exact h
  · cases h

theorem loadA_push {t : TypeId} {b i : Nat} {v : AV} (h : loadA V M t b i = some v) : loadA V M' t b i = some v := by
  unfold loadA at h ⊢
  split at h
  · split at h
    · split at h
      · rename_i cs hcs
        rw [loads_push hp R.top hcs]
        exact h
      · cases h
    · cases h
  · unfold Mem.load at h ⊢
    split at h
    · rename_i r hr
      rw [row_push hp R.top hr]
      exact h
    · cases h
  · cases h

theorem toStr_push {e : TypeId} {x v : AV} (h : toStr V M e x = .val v) : toStr V M' e x = .val v := by
  unfold toStr at h ⊢
  split at h
  · split at h
    · exact h
    · split at h
      · rename_i cs hcs
        rw [loads_push hp R.top hcs]
        exact h
      · cases h
    · cases h
  · cases h

theorem toUnsafe_push {t : TypeId} {x v : AV} (h : toUnsafe V M t x = .val v) : toUnsafe V M' t x = .val v := by
  unfold toUnsafe at h ⊢
  split at h
  · exact h
  · split at h
    · rename_i r n hr hn
      rw [row_push hp R.top hr, hn]
      exact h
    · cases h
  · cases h

theorem fromUnsafe_push {t : TypeId} {x v : AV} (h : fromUnsafe V M t x = .val v) : fromUnsafe V M' t x = .val v := by
  unfold fromUnsafe at h ⊢
  split at h
  · exact h
  · split at h
    · rename_i r n hr hn
      rw [row_push hp R.top hr, hn]
      exact h
    · cases h
  · cases h

theorem sliceA_push {tm : T AV} {t : TypeId} {x : Operand} {lo hi mx : Option Operand} {v : AV} (h : sliceA V tm M t x lo hi mx = some v) : sliceA V tm M' t x lo hi mx = some v := by
  unfold sliceA at h ⊢
  rw [degO_push hV R hp]
  split at h
  · split at h
    · exact h
    · rename_i e hu
      unfold sliceSl at h ⊢
      split at h
      · split at h
        · rename_i b i len cap _
          cases hc : Nat.blt cap unk
          · rw [hc, cond_false] at h
            rw [cond_false]
            cases hi : (isRowOf M b e && Nat.blt (cap - unk) unk)
            · rw [hi] at h; cases h
            · rw [hi, cond_true] at h
              simp only [Bool.and_eq_true] at hi
              rw [isRow_push R hp hi.1, hi.2]
              exact h
          · rw [hc, cond_true] at h
            exact h
        · exact h
        · cases h
      · cases h
    · exact h
    · cases h
  · cases h

theorem fA_push {tm : T AV} {op : Op} {v : AV} (h : fA V tm M op = .val v) : fA V tm M' op = .val v := by
  cases op <;> unfold fA at h ⊢ <;> simp only [] at h ⊢ <;> first
    | exact h
    | (cases h; done)
    | skip
  case alloc e =>
    unfold fAlloc fP at h
    repeat' split at h
    all_goals (cases h; done)
  case box e x =>
    unfold fBox fP at h
    repeat' split at h
    all_goals (cases h; done)
  case buildSlice t len parts =>
    unfold fBuildSlice at h
    repeat' split at h
    all_goals first
      | (cases h; done)
      | exact (fBuildSlice1_val h).elim
  case load t a =>
    unfold fLoad at h ⊢
    rw [degO_push hV R hp]
    split at h
    · exact by rw [loadA_push hV R hp (fV_val h)]; rfl
    · cases h
  case convert s d x =>
    unfold fConv convA at h ⊢
    split at h
    · rename_i a ha
      split at h
      · exact h
      · split at h
        · exact h
        · exact toStr_push hV R hp h
        · cases h
      · split at h
        · exact toUnsafe_push hV R hp h
        · cases h
      · split at h
        · exact fromUnsafe_push hV R hp h
        · cases h
      · cases h
    · cases h
  case slice t x lo hi mx =>
    rw [sliceA_push hV R hp (fV_val h)]; rfl
  case fieldAddr s x f =>
    unfold fFieldAddr at h ⊢
    rw [degO_push hV R hp]
    exact h
  case indexAddr t x y =>
    unfold fIndexAddr at h ⊢
    rw [degO_push hV R hp]
    exact h

end
end Go.Proofs.Ytcpffiihdnecjaa.Ev
