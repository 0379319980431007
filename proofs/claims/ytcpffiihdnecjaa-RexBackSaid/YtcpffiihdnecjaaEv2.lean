/- The evaluator: what the trees do; what relates an abstract memory to a world. -/
import Derived.Test.YtcpffiihdnecjaaEv1
import Derived.Orders
namespace Go.Proofs.Ytcpffiihdnecjaa.Ev
set_option linter.unusedSectionVars false
set_option linter.unusedSimpArgs false
set_option linter.unusedVariables false
open Go

-- trees

theorem T.get_nil {α : Type} (i : Nat) : (T.nil : T α).get i = none := rfl

theorem T.get_node {α : Type} (x : Option α) (l r : T α) (i : Nat) :
    (T.node x l r).get i = if i = 0 then x else if i % 2 = 1 then l.get (i / 2) else r.get (i / 2 - 1) := by
  show Bool.rec (motive := fun _ => Option α) (Bool.rec (motive := fun _ => Option α) (r.get (i / 2 - 1)) (l.get (i / 2)) (Nat.beq (i % 2) 1)) x (Nat.beq i 0) = _
  cases h : Nat.beq i 0
  · have h0 : ¬ i = 0 := fun e => by simp [e] at h
    rw [if_neg h0]
    cases h1 : Nat.beq (i % 2) 1
    · have : ¬ i % 2 = 1 := fun e => by simp [e] at h1
      rw [if_neg this]
    · have : i % 2 = 1 := Nat.eq_of_beq_eq_true h1
      rw [if_pos this]
  · have h0 : i = 0 := Nat.eq_of_beq_eq_true h
    rw [if_pos h0]

theorem T.mk1_succ {α : Type} (y : Option α) (k i : Nat) :
    T.mk1 y (k + 1) i = if i = 0 then some (.node y .nil .nil) else if i % 2 = 1 then (T.mk1 y k (i / 2)).map (fun l => .node none l .nil)
      else (T.mk1 y k (i / 2 - 1)).map (fun r => .node none .nil r) := by
  show Bool.rec (motive := fun _ => Option (T α)) (Bool.rec (motive := fun _ => Option (T α)) _ _ (Nat.beq (i % 2) 1)) _ (Nat.beq i 0) = _
  cases h : Nat.beq i 0
  · have h0 : ¬ i = 0 := fun e => by simp [e] at h
    rw [if_neg h0]
    cases h1 : Nat.beq (i % 2) 1
    · have : ¬ i % 2 = 1 := fun e => by simp [e] at h1
      rw [if_neg this]
      show (Option.rec (motive := fun _ => Option (T α)) none (fun r => some (T.node none .nil r)) (T.mk1 y k (i / 2 - 1)) : Option (T α)) = _
      cases T.mk1 y k (i / 2 - 1) <;> rfl
    · have : i % 2 = 1 := Nat.eq_of_beq_eq_true h1
      rw [if_pos this]
      show (Option.rec (motive := fun _ => Option (T α)) none (fun l => some (T.node none l .nil)) (T.mk1 y k (i / 2)) : Option (T α)) = _
      cases T.mk1 y k (i / 2) <;> rfl
  · have h0 : i = 0 := Nat.eq_of_beq_eq_true h
    rw [if_pos h0]

theorem T.mk1_get {α : Type} (y : Option α) : ∀ (k i : Nat) (t : T α), T.mk1 y k i = some t → ∀ j, t.get j = if j = i then y else none
  | 0, _, _, h => by cases h
  | k + 1, i, t, h => by
    intro j
    rw [T.mk1_succ] at h
    split at h
    · rename_i h0
      subst h0
      cases h
      rw [T.get_node]
      split
      · rfl
      · split <;> rfl
    · rename_i h0
      split at h
      · rename_i h1
        cases hm : T.mk1 y k (i / 2) with
        | none => rw [hm] at h; cases h
        | some l =>
          rw [hm] at h; cases h
          rw [T.get_node, T.mk1_get y k _ _ hm]
          by_cases hj : j = 0
          · subst hj; rw [if_pos rfl, if_neg (by omega)]
          · rw [if_neg hj]
            by_cases hj1 : j % 2 = 1
            · rw [if_pos hj1]
              by_cases e : j = i
              · subst e; simp
              · rw [if_neg (by omega), if_neg e]
            · rw [if_neg hj1, T.get_nil, if_neg (by omega)]
      · rename_i h1
        cases hm : T.mk1 y k (i / 2 - 1) with
        | none => rw [hm] at h; cases h
        | some l =>
          rw [hm] at h; cases h
          rw [T.get_node, T.mk1_get y k _ _ hm]
          by_cases hj : j = 0
          · subst hj; rw [if_pos rfl, if_neg (by omega)]
          · rw [if_neg hj]
            by_cases hj1 : j % 2 = 1
            · rw [if_pos hj1, T.get_nil, if_neg (by omega)]
            · rw [if_neg hj1]
              by_cases e : j = i
              · subst e; simp
              · rw [if_neg (by omega), if_neg e]

theorem T.set_nil {α : Type} (i : Nat) (y : Option α) : (T.nil : T α).set i y = T.mk1 y 64 i := rfl

theorem T.set_node {α : Type} (x : Option α) (l r : T α) (i : Nat) (y : Option α) :
    (T.node x l r).set i y = if i = 0 then some (.node y l r) else if i % 2 = 1 then (l.set (i / 2) y).map (fun l => .node x l r)
      else (r.set (i / 2 - 1) y).map (fun r => .node x l r) := by
  show Bool.rec (motive := fun _ => Option (T α)) (Bool.rec (motive := fun _ => Option (T α)) _ _ (Nat.beq (i % 2) 1)) _ (Nat.beq i 0) = _
  cases h : Nat.beq i 0
  · have h0 : ¬ i = 0 := fun e => by simp [e] at h
    rw [if_neg h0]
    cases h1 : Nat.beq (i % 2) 1
    · have : ¬ i % 2 = 1 := fun e => by simp [e] at h1
      rw [if_neg this]
      show (Option.rec (motive := fun _ => Option (T α)) none (fun r => some (T.node x l r)) (r.set (i / 2 - 1) y) : Option (T α)) = _
      cases r.set (i / 2 - 1) y <;> rfl
    · have : i % 2 = 1 := Nat.eq_of_beq_eq_true h1
      rw [if_pos this]
      show (Option.rec (motive := fun _ => Option (T α)) none (fun l => some (T.node x l r)) (l.set (i / 2) y) : Option (T α)) = _
      cases l.set (i / 2) y <;> rfl
  · have h0 : i = 0 := Nat.eq_of_beq_eq_true h
    rw [if_pos h0]

theorem T.set_get {α : Type} (y : Option α) : ∀ (t : T α) (i : Nat) (t' : T α), t.set i y = some t' → ∀ j, t'.get j = if j = i then y else t.get j := by
  intro t
  induction t with
  | nil => intro i t' h j; rw [T.set_nil] at h; rw [T.mk1_get y _ _ _ h, T.get_nil]
  | node x l r ihl ihr =>
    intro i t' h j
    rw [T.set_node] at h
    split at h
    · rename_i h0
      subst h0
      cases h
      rw [T.get_node, T.get_node]
      by_cases e : j = 0
      · rw [if_pos e, if_pos e]
      · rw [if_neg e, if_neg e, if_neg e]
    · rename_i h0
      split at h
      · rename_i h1
        cases hm : l.set (i / 2) y with
        | none => rw [hm] at h; cases h
        | some l' =>
          rw [hm] at h; cases h
          rw [T.get_node, T.get_node, ihl _ _ hm]
          by_cases hj : j = 0
          · subst hj; rw [if_pos rfl, if_neg (by omega), if_pos rfl]
          · rw [if_neg hj, if_neg hj]
            by_cases hj1 : j % 2 = 1
            · rw [if_pos hj1, if_pos hj1]
              by_cases e : j = i
              · subst e; simp
              · rw [if_neg (by omega), if_neg e]
            · rw [if_neg hj1, if_neg (show ¬ j = i by omega), if_neg hj1]
      · rename_i h1
        cases hm : r.set (i / 2 - 1) y with
        | none => rw [hm] at h; cases h
        | some r' =>
          rw [hm] at h; cases h
          rw [T.get_node, T.get_node, ihr _ _ hm]
          by_cases hj : j = 0
          · subst hj; rw [if_pos rfl, if_neg (by omega), if_pos rfl]
          · rw [if_neg hj, if_neg hj]
            by_cases hj1 : j % 2 = 1
            · rw [if_pos hj1, if_neg (show ¬ j = i by omega), if_pos hj1]
            · rw [if_neg hj1, if_neg hj1]
              by_cases e : j = i
              · subst e; simp
              · rw [if_neg (by omega), if_neg e]

theorem evens_get {α : Type} : ∀ (l : List α) (i : Nat), (evens l)[i]? = l[2 * i]?
  | [], i => by simp [evens]
  | [x], i => by
    cases i with
    | zero => rfl
    | succ i => simp [evens]
  | x :: y :: r, i => by
    cases i with
    | zero => rfl
    | succ i =>
      show (evens r)[i]? = _
      rw [evens_get r i]
      show _ = (x :: y :: r)[2 * i + 1 + 1]?
      rfl

theorem odds_get {α : Type} : ∀ (l : List α) (i : Nat), (odds l)[i]? = l[2 * i + 1]?
  | [], i => by simp [odds]
  | [x], i => by simp [odds]
  | x :: y :: r, i => by
    cases i with
    | zero => rfl
    | succ i =>
      show (odds r)[i]? = _
      rw [odds_get r i]
      show _ = (x :: y :: r)[2 * i + 1 + 1 + 1]?
      rfl

theorem T.ofL_get {α : Type} : ∀ (k : Nat) (l : List α) (i : Nat) (x : α), (T.ofL k l).get i = some x → l[i]? = some x
  | 0, _, _, _, h => by cases h
  | k + 1, [], _, _, h => by cases h
  | k + 1, y :: r, i, x, h => by
    rw [T.ofL, T.get_node] at h
    by_cases h0 : i = 0
    · subst h0; simpa using h
    · rw [if_neg h0] at h
      obtain ⟨j, rfl⟩ : ∃ j, i = j + 1 := ⟨i - 1, by omega⟩
      rw [List.getElem?_cons_succ]
      by_cases h1 : (j + 1) % 2 = 1
      · rw [if_pos h1] at h
        have := T.ofL_get k _ _ _ h
        rw [evens_get] at this
        rwa [show 2 * ((j + 1) / 2) = j by omega] at this
      · rw [if_neg h1] at h
        have := T.ofL_get k _ _ _ h
        rw [odds_get] at this
        rwa [show 2 * ((j + 1) / 2 - 1) + 1 = j by omega] at this

-- where abstract blocks lie

/-- Where a block's cell 0 lies; how many cells there are from there on; the size of an element. -/
structure Loc where
  blk : Nat
  off : Nat
  room : Nat
  esz : Nat

abbrev Emb := Nat → Option Loc

noncomputable def Emb.le (φ ψ : Emb) : Prop := ∀ b l, φ b = some l → ψ b = some l
theorem Emb.le_refl (φ : Emb) : φ.le φ := fun _ _ h => h
theorem Emb.le_trans {φ ψ χ : Emb} (h : φ.le ψ) (k : ψ.le χ) : φ.le χ := fun b l e => k b l (h b l e)
noncomputable def Emb.with (φ : Emb) (b : Nat) (l : Loc) : Emb := fun c => if c = b then some l else φ c
theorem Emb.le_with {φ : Emb} {b : Nat} (l : Loc) (h : φ b = none) : φ.le (φ.with b l) := fun c k e => by
  unfold Emb.with
  by_cases hc : c = b
  · subst hc; rw [h] at e; cases e
  · rw [if_neg hc]; exact e
theorem Emb.with_same (φ : Emb) (b : Nat) (l : Loc) : (φ.with b l) b = some l := by simp [Emb.with]
theorem Emb.with_other {φ : Emb} {b c : Nat} (l : Loc) (h : c ≠ b) : (φ.with b l) c = φ c := by simp [Emb.with, h]

noncomputable def Loc.addr (l : Loc) (i : Nat) : Addr := ⟨l.blk, l.off + i, none⟩

mutual
inductive VRel (φ : Emb) : AV → Value → Prop
  | bool (b : Bool) : VRel φ (.bool b) (.bool b)
  | int (k : IntKind) (n : Int) : VRel φ (.int k n) (.int k n)
  | str (s : ByteArray) : VRel φ (.str s.size (packL s.data.toList)) (.string s)
  | ptr (b i : Nat) (l : Loc) : φ b = some l → VRel φ (.ptr b i) (.pointer (some (l.addr i)))
  | gptr (g : Nat) : VRel φ (.gptr g) (.pointer (some ⟨g, 0, none⟩))
  | pnil : VRel φ .pnil (.pointer none)
  | slice (b i len cap : Nat) (l : Loc) (cap' : Nat) : φ b = some l → len ≤ cap' → (cap < unk → cap' = cap) → (unk ≤ cap → cap - unk ≤ cap' ∧ i + cap' * l.esz ≤ l.room) →
      VRel φ (.slice b i len cap) (.slice (some (l.addr i)) len cap')
  | sliceE (b i : Nat) (a : Addr) : VRel φ (.slice b i 0 unk) (.slice (some a) 0 0)
  | snil : VRel φ .snil (.slice none 0 0)
  | map (b : Nat) (l : Loc) : φ b = some l → VRel φ (.map b) (.map (some l.blk))
  | mnil : VRel φ .mnil (.map none)
  | func (fn : Fn) (xs ys : List AV) (us vs : Array Value) : VsRel φ xs us.toList → VsRel φ ys vs.toList → VRel φ (.func fn xs ys) (.func fn us vs)
  | yield (b : Nat) (l : Loc) : φ b = some l → VRel φ (.yield b) (.func (.yield l.blk) #[] #[])
  | fnil : VRel φ .fnil .nilFunc
  | iface (t : TypeId) (v : AV) (u : Value) : VRel φ v u → VRel φ (.iface t v) (.iface t u)
  | inil : VRel φ .inil .nilIface
  | agg (xs : List AV) (us : Array Value) : VsRel φ xs us.toList → VRel φ (.agg xs) (.agg us)
  | tuple (xs : List AV) (us : Array Value) : VsRel φ xs us.toList → VRel φ (.tuple xs) (.tuple us)
inductive VsRel (φ : Emb) : List AV → List Value → Prop
  | nil : VsRel φ [] []
  | cons (x : AV) (u : Value) (xs : List AV) (us : List Value) : VRel φ x u → VsRel φ xs us → VsRel φ (x :: xs) (u :: us)
end

mutual
theorem VRel.mono {φ ψ : Emb} (hle : φ.le ψ) : ∀ {x : AV} {u : Value}, VRel φ x u → VRel ψ x u
  | _, _, .bool b => .bool b
  | _, _, .int k n => .int k n
  | _, _, .str s => .str s
  | _, _, .ptr b i l h => .ptr b i l (hle _ _ h)
  | _, _, .gptr g => .gptr g
  | _, _, .pnil => .pnil
  | _, _, .slice b i len cap l cap' h h0 h1 h2 => .slice b i len cap l cap' (hle _ _ h) h0 h1 h2
  | _, _, .sliceE b i a => .sliceE b i a
  | _, _, .snil => .snil
  | _, _, .map b l h => .map b l (hle _ _ h)
  | _, _, .mnil => .mnil
  | _, _, .func fn xs ys us vs h k => .func fn xs ys us vs (VsRel.mono hle h) (VsRel.mono hle k)
  | _, _, .yield b l h => .yield b l (hle _ _ h)
  | _, _, .fnil => .fnil
  | _, _, .iface t v u h => .iface t v u (VRel.mono hle h)
  | _, _, .inil => .inil
  | _, _, .agg xs us h => .agg xs us (VsRel.mono hle h)
  | _, _, .tuple xs us h => .tuple xs us (VsRel.mono hle h)
theorem VsRel.mono {φ ψ : Emb} (hle : φ.le ψ) : ∀ {xs : List AV} {us : List Value}, VsRel φ xs us → VsRel ψ xs us
  | _, _, .nil => .nil
  | _, _, .cons x u xs us h k => .cons x u xs us (VRel.mono hle h) (VsRel.mono hle k)
end

theorem VsRel.length {φ : Emb} : ∀ {xs : List AV} {us : List Value}, VsRel φ xs us → xs.length = us.length
  | _, _, .nil => rfl
  | _, _, .cons _ _ _ _ _ k => by simp [VsRel.length k]

theorem VsRel.get {φ : Emb} : ∀ {xs : List AV} {us : List Value}, VsRel φ xs us → ∀ (i : Nat) (x : AV), xs[i]? = some x → ∃ u, us[i]? = some u ∧ VRel φ x u
  | _, _, .nil, i, x, h => by simp at h
  | _, _, .cons y u ys us h k, 0, x, e => by simp at e; subst e; exact ⟨u, by simp, h⟩
  | _, _, .cons y u ys us h k, i + 1, x, e => by
    rw [List.getElem?_cons_succ] at e ⊢
    exact VsRel.get k i x e

theorem VsRel.append {φ : Emb} : ∀ {xs : List AV} {us : List Value}, VsRel φ xs us → ∀ {ys : List AV} {vs : List Value}, VsRel φ ys vs → VsRel φ (xs ++ ys) (us ++ vs)
  | _, _, .nil, _, _, k => k
  | _, _, .cons x u xs us h hs, _, _, k => .cons x u _ _ h (VsRel.append hs k)

theorem VsRel.take {φ : Emb} : ∀ {xs : List AV} {us : List Value}, VsRel φ xs us → ∀ n, VsRel φ (xs.take n) (us.take n)
  | _, _, .nil, n => by simp; exact .nil
  | _, _, .cons x u xs us h hs, 0 => .nil
  | _, _, .cons x u xs us h hs, n + 1 => .cons x u _ _ h (VsRel.take hs n)

theorem VsRel.drop {φ : Emb} : ∀ {xs : List AV} {us : List Value}, VsRel φ xs us → ∀ n, VsRel φ (xs.drop n) (us.drop n)
  | _, _, .nil, n => by simp; exact .nil
  | _, _, .cons x u xs us h hs, 0 => .cons x u _ _ h hs
  | _, _, .cons x u xs us h hs, n + 1 => VsRel.drop hs n

theorem VRel.cells {φ : Emb} {x : AV} {u : Value} (h : VRel φ x u) : VsRel φ x.cells u.cells.toList := by
  cases h with
  | agg xs us h => exact h
  | _ => exact .cons _ _ _ _ (by constructor <;> assumption) .nil

noncomputable def oneV : Value → Bool
  | .agg _ => false
  | .tuple _ => false
  | _ => true

theorem VRel.one {φ : Emb} {x : AV} {u : Value} (h : VRel φ x u) : x.one = oneV u := by cases h <;> rfl

end Go.Proofs.Ytcpffiihdnecjaa.Ev
